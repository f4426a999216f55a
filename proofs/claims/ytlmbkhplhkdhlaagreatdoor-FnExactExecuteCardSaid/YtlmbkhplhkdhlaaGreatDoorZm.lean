/- FnExactExecuteCard holds, with no condition. -/
import Derived.Test.YtlmbkhplhkdhlaaGreatDoorZm3
import Derived.Tactics2
import Derived.Defers
import Derived.Recover
import Derived.Laws.Pointers
import Derived.Maps.OwnSet
import Derived.StringKeys
import Derived.Laws.EntriesVeiled
import Derived.Shelf.Strings.BuilderK
import Derived.Shelf.Strings.BuilderF
import Derived.Shelf.Strings.Repeat
import Derived.Shelf.Small.Strs
import Derived.JoinedOf
import Derived.Shelf.Strings.Shaped
import Derived.LaidLaws
import Derived.LaidSub
import Derived.Handed
import Derived.Test.YtlmbkhplhkdhlaaGreatDoorCards
import Derived.LaidHandle
import Derived.Stop.Joined
import Derived.Test.YtlmbkhplhkdhlaaGreatDoorTie
import Derived.SevenTiedAt
set_option maxRecDepth 100000
set_option maxHeartbeats 8000000
set_option linter.defProp false
set_option linter.unusedVariables false
set_option linter.unusedSimpArgs false
open Go.Act renaming put→jb
open Go renaming Addr→c9,Calls→aH,DataW→mI,Ending→jt,FuncId→bq,Leaves→wa,MemPlace→DG,TypeId→ae,Value→τ,World→υ,bodyPost_ret→fZ,callsD_of_wpS→H9,cell_of_row→gR,execOp→dl,frozen_of_row→se,laidMetH→Ic,leaves_cons→wC,recoverD→Ie,settle→wD,wpS_of_wp→Ik,wpS_region→Il
open Go.Proofs.Any renaming strings_Split→OF
open _root_ renaming Array→aU,Bool→κ,ByteArray→ρ,Int→Z,List→E,Nat→O,Option→χ,String→zM,UInt8→ψ,absurd→aO,and_true→aa,beq_eq_false_iff_ne→dT,beq_iff_eq→ks,beq_self_eq_true→aaR,cond_false→a_,cond_true→aZ,congrArg→wz,decide_eq_false→eJ,decide_eq_true→bA,decide_eq_true_eq→aB,if_neg→bi,if_pos→aP,of_decide_eq_false→cE,of_decide_eq_true→aL,or_false→nM,true_and→bo
open Array renaming getElem?_eq_some_iff→cm,getElem?_modify→zn,length_toList→lx,mk→bj
open Go.RowKit.Below renaming heap_alloc→gj,heap_setCell→kj
open Bool renaming and_eq_true→aM,and_false→gP,and_true→iM,eq_iff_iff→kk,false_and→ly,true_and→dD,false→η,true→ε
open ByteArray renaming mk→a8,size→aW,size_extract→zp
open Go.ByteArray renaming toList_eq→qG
open Classical renaming propDecidable→Hs
open Go.DataW.agg renaming injEq→OO
open Go.DataW.lit renaming injEq→OP
open Go.Ending renaming returned→Hu
open Go.Exit renaming thenS→Hv
open Go.Shelf renaming Ren→mJ
open Go.WideMaps renaming keyOf_string_mk→atx
open Go.Instr renaming index→v6,makeFunc→OV,typeAssert→zt
open Int renaming add_zero→g7,toNat→a5,toNat_natCast→cY
open Go.IntKind renaming i64→a7,u8→oC,wrap→aj,wrap_u8→Dt
open Go.Lib renaming bytesWorld→wb,countB→zv,cut→e_,indexByte→ZS,itoa→bc,join→iD,splitB→zw
open List renaming all_cons→gl,all_eq_true→bX,append_assoc→lZ,drop_eq_getElem_cons→DA,find?_cons→HE,flatten_cons→zy,foldl_append→zz,foldl_cons→zA,getD_eq_getElem?_getD→cq,getElem?_eq_getElem→cV,getElem_mem→ko,length→b_,length_append→cv,length_cons→cn,length_drop→oF,length_dropLast→Pa,length_eq_zero_iff→Pb,length_map→cC,length_nil→gm,length_take→oG,map→Pd,map_append→iN,map_cons→eD,map_map→qH,map_nil→kp,mem_cons→dw,mem_cons_of_mem→lB,mem_cons_self→je,mem_singleton→mN,nil_append→mO,not_mem_nil→kq,range→dH,setIfInBounds_toArray→l4,suffix_iff_eq_drop→atU,take_length→DF,take_of_length_le→oH,take_succ_cons→Ph,take_succ_eq_append_getElem→wl
open List.cons renaming injEq→lA
open Go.Lit.bool renaming injEq→atX
open Go.Lit.int renaming injEq→aad
open Nat renaming beq→ai,beq_refl→l5,ble→Θ,ble_eq→aT,blt→Δ,blt_eq→bS,eq_of_beq_eq_true→ci,le_of_eq→HL,le_of_lt→HM,le_refl→aR,le_trans→cD,lt_irrefl→nF,lt_of_lt_of_le→eE,lt_succ_self→ft,mul_le_mul→pD,ne_of_gt→HN,not_le→fY,not_lt_zero→cN,sub_zero→zI,zero_add→bF,zero_le→eF,zero_lt_one→nI
open Go.Obj.cells renaming injEq→qK
open Go.OpenSpec renaming ofChange→HQ
open Option renaming bind_some→HS,getD_some→g9,map_eq_some_iff→dt,map_some→zJ,none→ζ,some→γ
open Option.some renaming inj→t_,injEq→ar
open Or renaming elim→ua,inl→kr,inr→HT
open Prod.mk renaming injEq→cG
open Go.Proofs.YtlmbkhplhkdhlaaGreatDoor.Rows renaming fnExactExecuteRow→ju,fnExactExecuteSpec→zK,laid_internal_strconv_uint64pow10→at5,laid_math_bits_deBruijn32tab→at6,laid_math_bits_deBruijn64tab→at7,laid_strconv_ErrRange→at9,laid_strconv_ErrSyntax→at',laid_unicode_utf8_acceptRanges→aua,laid_unicode_utf8_first→aub
open Go.Proofs.Tryz renaming checked→aay,f102→Pt,f117→ub,f13→HY,f15→HZ,f158→gn,f177→wv,f3→ww,f51→PH,func10→PW,func13→DV,func14→pF,func157→P0,func3→P3,func36→aaE,func4→aaF,func5→aaG,func50→DW,func6→P6,ntmps10→P9,ntmps13→H5,ntmps14→pG,ntmps157→P_,ntmps36→aaM,ntmps50→DX,ntmps6→Qb,prog→θ,results10→Qc,results13→H6,results14→pH,results157→Qd,results50→DY,results6→Qe,underlying38→r_
open UInt8 renaming ofNat→mQ,ofNat_toNat→aaN
open Go.Value renaming int→jf,string→cZ
open Go.World renaming alloc_heap_new→l8,cell?→pI,cell?_of_block→nL,frozen?_of_block→DZ,grownBy_alloc→fk,setCell→l9,var?→Qj
open Decidable renaming decide→ο
open Go.Proofs.Tryz
namespace Go.Proofs.YtlmbkhplhkdhlaaGreatDoor
noncomputable section
open Go.RowKit Go.Shelf Go.ChangeShapes Go.WideShapes Go.ChangeAt
def uv{a b:O}(h:a<b):Δ a b=ε:=by rw[bS];exact h
def Af{a b:O}(h:¬a<b):Δ a b=η:=by
 cases e:Δ a b with
 |false=>rfl
 |true=>rw[bS]at e;exact aO e h
def aoQ{k:O}(hp:au θ 177 (am rA (pN j_ kz ky (jI k))))(n:O)(ws:E ρ)(R:ws.length=n)(W:n<=1000)(w:O)(b:κ)(hi0:w<=n)(hk0:n-w<k+1)(X:zV)(hX:X=dE b ((cX ws).drop w) []):cp θ 1 (.block 0 (.loop (a4 0 wv))) (bD 91 (u7 .normal) 1 (y6 n w b 0) (m7 n ws 0 (c8 [])) (λd=>cond X.d (d .normal (aw 0 91 [(1,.v (ι n)),(2,.v (.bool b)),(8,.own 1 X.T.length)]) (m7 n ws X.T.length (c8 X.T))) (d .ret (aw 0 91 [(6,.own 1 X.T.length),(7,.v (ι (pV n X.r)))]) (m7 n ws X.T.length (c8 X.T))))):=by
 have gmk:aK θ (xD vQ mn j_ kz ky (jI k)):=az (az (az bt V7) VZ) hp;refine Bv gmk (n:=200) (m:=1) (lv:=u7) (σ:=E ψ×O) (λs=>y6 n s.2 b s.1.length) (λs=>m7 n ws s.1.length (c8 s.1)) (λs=>X=dE b ((cX ws).drop s.2) s.1/\s.1.length<=500/\w<=s.2/\s.2<=n) (λs=>n-s.2) ([],w)
  (λs=>LN n ws b s.1.length (c8 s.1) (mn (et ws s.2)) (dE ε ((cX ws).drop (s.2+1)) []).T.length (c8 (dE ε ((cX ws).drop (s.2+1)) []).T) (pV n (dE ε ((cX ws).drop (s.2+1)) []).r) (s.1++rep (bT (et ws s.2).data.toList) (dE ε ((cX ws).drop (s.2+1)) []).T).length (c8 (s.1++rep (bT (et ws s.2).data.toList) (dE ε ((cX ws).drop (s.2+1)) []).T)))
  (du rfl rfl rfl) (aR _) ⟨hX,eF _,aR _,hi0⟩ λd Q x s D=>?_
 obtain⟨f,i⟩:=s;obtain⟨e,ho,hi1,hi2⟩:=D;simp only at e ho hi1 hi2;have G:=St ε ((cX ws).drop (i+1));refine⟨u2 (c:=a4 3 wv) (by kernel_rfl) (aoP n ws b f _ (bT (et ws i).data.toList) _ (Mf _) ho G.1),?_⟩;have g:∀T,X=⟨T,ζ,η⟩->(d .ret (aw 0 91 [(6,.own 1 T.length),(7,.v (ι (-1)))]) (m7 n ws T.length (c8 T))).ok Q:=λT h=>by rw[h]at x;exact x
 show aC (a0 θ (xD vQ mn j_ kz ky (jI k)) 200 (LN n ws b f.length (c8 f) (mn (et ws i)) (dE ε ((cX ws).drop (i+1)) []).T.length (c8 (dE ε ((cX ws).drop (i+1)) []).T) (pV n (dE ε ((cX ws).drop (i+1)) []).r) (f++rep (bT (et ws i).data.toList) (dE ε ((cX ws).drop (i+1)) []).T).length (c8 (f++rep (bT (et ws i).data.toList) (dE ε ((cX ws).drop (i+1)) []).T))) (a4 0 wv) (aw 0 91 ((u7 .normal).zip (y6 n i b f.length))) (m7 n ws f.length (c8 f)) (cJ 91 u7 1)) _
 rw[amT];rw[cY];refine ay (λS=>?_) λS=>?_
 ·have c1':i<n:=by have:=aL S;omega
  have hlt:i<(cX ws).length:=by rw[cC];omega
  have hdr:(cX ws).drop i=(et ws i).data.toList::(cX ws).drop (i+1):=by rw[DA hlt];simp[et,show i<ws.length by omega]
  have ew:aj a7 ((i:Z)+1)=((i+1:O):Z):=by rw[bR (by omega)];omega
  rw[hdr,afj]at e;have hst:vQ (et ws i)=gU (et ws i).data.toList:=rfl;have y:mn (et ws i)=((bT (et ws i).data.toList:O):Z):=rfl;have heq:cK (et ws i) (a8 (bj [(93:ψ)]))=((et ws i).data.toList==[93]):=by rw[J7,kk,aB,ks]
  have H:∀q,(et ws i).data.toList.length=1->q<f.length+1->(bif Δ q f.length then c8 f q else et ws i)=c8 (f++(et ws i).data.toList) q:=λq z I=>alC z I
  have L:j_ n (λq=>ey ws (0+q)) ((i+1:O):Z) ε=(dE ε ((cX ws).drop (i+1)) []).T.length:=by unfold j_ iq;rw[N2 R,cY]
  have M:ky n (λq=>ey ws (0+q)) ((i+1:O):Z) ε=pV n (dE ε ((cX ws).drop (i+1)) []).r:=by unfold ky iq;rw[N2 R,cY]
  have N:∀j,kz n (λq=>ey ws (0+q)) ((i+1:O):Z) ε j=c8 (dE ε ((cX ws).drop (i+1)) []).T j:=λj=>by unfold kz iq;rw[N2 R,cY]
  have P:jI k n (λq=>ey ws (0+q)) ((i+1:O):Z) ε=ε:=by unfold jI;rw[abd,show Θ n 1000=ε from by rw[aT];exact W,bA (by omega:(0:Z)<=((i+1:O):Z)),bA (by omega:((i+1:O):Z)<=n),cY,uv (by omega)];rfl
  simp only[bF]at L M N P;simp only[bF,ew,L,M,N];refine ag (by simp only[F,ah,aa,aB];omega) ?_;rw[hst];generalize hlw:(et ws i).data.toList=r at*;cases D:gU r with
  |true=>
   have z:=Gg D;rw[D,aZ]at e;refine eS rfl (ag (by simp only[F,ah,aa,aT];omega) (ay (λo=>?_) λo=>?_))
   ·have o:=aL o
    rw[uv (by omega),aZ]at e;have:=g _ e;rw[show(f++r).length=f.length+1 by rw[cv,z]]at this;exact Φ ⟨_,.cons (Ξ.refl _) (.cons (Ξ.row λq I=>by rw[H q z I]) .nil),this⟩
   ·have o:=cE o
    rw[Af (by omega),a_]at e;refine Φ ⟨(f++r,i+1),⟨⟨e,by rw[cv];omega,by omega,by omega⟩,by omega⟩,?_,?_⟩
    ·simp only[cv,z]
    ·simp only[cv,z]
     exact .cons (Ξ.refl _) (.cons (Ξ.row λq I=>by rw[H q z I]) .nil)
  |false=>
   rw[D,a_]at e;refine cL rfl (ay (λo=>?_) λo=>?_)
   ·have o:0<bT r:=by have:=aL o;rw[y]at this;omega
    rw[uv o,aZ]at e;refine ag (by simp only[F,ah,aa,aT,P];omega) ?_;generalize hB:dE ε ((cX ws).drop (i+1)) []=B at*;cases U:B.r with
    |none=>rw[U]at e;refine eS rfl ?_;exact Φ ⟨_,ab.refl _,g _ e⟩
    |some u=>
     have hB5:B.T.length<=500:=G.2 (by rw[U];rfl);have hk9:=Mf r;have hmul:B.T.length*bT r<=500*9:=pD hB5 hk9;have v:=(afl (by rw[hB];exact U:(dE ε ((cX ws).drop (i+1)) []).r=γ u));have hrl:=v.length_le;rw[oF,cC]at hrl;have hrd:u=(cX ws).drop (n-u.length):=by have:=atU.1 (v.trans (List.drop_suffix _ _));rw[cC,R]at this;exact this
     rw[U]at e;simp only at e;have hwm:aj a7 ((B.T.length:Z)*mn (et ws i))=((B.T.length*bT r:O):Z):=by rw[y,bR (by rw[<-Int.natCast_mul];omega)];exact(Int.natCast_mul _ _).symm
     rw[hwm];refine cL (eJ (by show ¬((n-u.length:O):Z)<0;omega)) (ay (λp=>?_) λp=>?_)
     ·have p:=aL p
      rw[uv (by omega),aZ]at e;exact Φ ⟨_,ab.refl _,g _ e⟩
     ·have p:=cE p
      rw[Af (by omega),a_]at e;refine ag (by simp only[F,ah,aa];exact cg ⟨rfl,ab.refl _⟩) (ay (λt=>?_) λt=>?_)
      ·have t:=aL t
       rw[uv (by omega),aZ]at e;exact Φ ⟨_,ab.refl _,g _ e⟩
      ·have t:=cE t
       rw[Af (by omega),a_]at e;refine Φ ⟨(f++rep (bT r) B.T,n-u.length),⟨⟨by rw[<-hrd];exact e,by show(f++rep (bT r) B.T).length<=500;omega,by show w<=n-u.length;omega,by show n-u.length<=n;omega⟩,by show n-(n-u.length)<n-i;omega⟩,rfl,ab.refl _⟩
   ·have o:¬0<bT r:=by have:=cE o;rw[y]at this;omega
    rw[Af o,a_]at e;rw[heq];refine ay (λp=>ay (λt=>ay (λA=>?_) λA=>?_) λt=>?_) λp=>?_
    ·have A:=aL A
     have C:f.isEmpty=η:=by
      cases f with
      |nil=>exact aO A (by decide)
      |cons=>rfl
     rw[p,t,C]at e;have e:X=⟨f,γ ((cX ws).drop (i+1)),η⟩:=e;rw[e]at x;have he:pV n (γ ((cX ws).drop (i+1)))=((i+1:O):Z):=by unfold pV;simp only[oF,cC];omega
     rw[he]at x;exact Φ ⟨_,ab.refl _,x⟩
    ·have A:=cE A
     have C:f.isEmpty=ε:=by
      cases f with
      |nil=>rfl
      |cons a l=>rw[cn]at A;omega
     rw[p,t,C]at e;exact Φ ⟨_,ab.refl _,g _ e⟩
    ·rw[p,t]at e
     exact Φ ⟨_,ab.refl _,g _ e⟩
    ·rw[p]at e
     exact Φ ⟨_,ab.refl _,g _ e⟩
 ·have S:=cE S
  have hin:i=n:=by omega
  subst hin;have hdn:(cX ws).drop i=[]:=List.drop_eq_nil_of_le (by rw[cC];omega);rw[hdn,afm]at e;rw[e]at x;refine Φ ⟨_,ab.refl _,?_⟩;rw[aP rfl];exact x
def abf{n:O}{g:O->E τ}{t:ae}(h:nP n g=ε):Ξ (.row η n 1 g t) (.row η n 1 (ey (strs g n)) t):=Ξ.row λj a=>by rw[Ev h a];simp[ey,et,strs,a]
def afF{k:O}(r:au θ 177 (am rA (pN j_ kz ky (jI k)))):au θ 177 (am rA (pN j_ kz ky (jI (k+1)))):=by
 have q:aK θ (xD vQ mn j_ kz ky (jI k)):=az (az (az bt V7) VZ) r;refine bY q func177 rfl λv G m s=>?_
 unfold pN at m;split at m
 ·rename_i n g i b
  cases m;simp only[F,ah,aa]at s;have h:=s;unfold jI at h;simp only[aM,aT,aB,bS]at h;obtain⟨t,w,x,H,u⟩:=h;obtain⟨a,rfl⟩:=Int.eq_ofNat_of_zero_le x;rw[cY]at u;have y:(strs g n).length=n:=by simp[strs]
  have d:iq n g (a:Z) b=dE b ((cX (strs g n)).drop a) []:=by unfold iq;rw[cY]
  have z:=St b ((cX (strs g n)).drop a);refine⟨[.row η n 1 (ey (strs g n)) 9],LO n (strs g n) (c8 []) a b (iq n g a b).d (iq n g a b).T.length (c8 (iq n g a b).T) (pV n (iq n g a b).r),200,.cons (abf t) .nil,cz (by kernel_rfl) (aoQ r n (strs g n) y w a b (by omega) u _ d),?_⟩;show aC (ad θ (xD vQ mn j_ kz ky (jI k)) (LO n (strs g n) (c8 []) a b (iq n g a b).d (iq n g a b).T.length (c8 (iq n g a b).T) (pV n (iq n g a b).r)) 200 wv [.sl 0 1 0 0 n ζ,.v (ι (a:Z)),.v (.bool b)] [.row η n 1 (ey (strs g n)) 9] (af 1)) _
  rw[aq0];have f:∀e:Z,e=pV n (iq n g a b).r->aC (.out .ret [.Ψ [.own 1 (iq n g a b).T.length,.v (ι e)]] [.row η n 1 (ey (strs g n)) 9,.row ε (iq n g a b).T.length 1 (λj=>[.string (c8 (iq n g a b).T j)]) 9]) (dV (bI rA [.row n g,.v (ι (a:Z)),.v (.bool b)] []) {val:=.Ψ [.own 0 (j_ n g a b),.v (ι (ky n g a b))],new:=[.row ε (j_ n g a b) 1 (λj=>[.string (kz n g a b j)]) 9],ap:=[jI (k+1) n g a b]}):=λe D=>by subst D;exact Φ ⟨_,rfl,rfl,.cons (Ξ.row λj o=>by rw[Ev t o];simp[ey,et,strs,o]) (ab.refl _)⟩
  refine ag (by simp only[F,ah,aa];exact cg ⟨trivial,.cons (Ξ.refl _) (.cons (Ξ.row λj o=>aO o (cN _)) .nil)⟩) ?_;refine ay (λl=>ay (λp=>f _ ?_) λp=>ay (λc=>f _ ?_) λc=>f _ ?_) λl=>f _ rfl
  ·subst p
   rw[d]at l⊢;rw[KC l];rfl
  ·subst p
   rw[d]at l c⊢;have c:((dE η ((cX (strs g n)).drop a) []).T.length:Z)=0:=by simpa using c
   rw[KC l,List.isEmpty_iff.2 (Pb.1 (by omega))];rfl
  ·subst p
   rw[d]at l c⊢;have c:¬((dE η ((cX (strs g n)).drop a) []).T.length:Z)=0:=λe=>by rw[e]at c;cases c
   rw[KC l,show(dE η ((cX (strs g n)).drop a) []).T.isEmpty=η from by
    cases e:(dE η ((cX (strs g n)).drop a) []).T with
    |nil=>rw[e]at c;exact aO rfl c
    |cons=>rfl]
   show(n:Z)=((n-0:O):Z)
   rw[zI]
 ·cases m
def afG:au θ 177 (am rA (pN j_ kz ky (jI 0))):=by
 refine nk enters func177 rfl λc d a b=>?_
 unfold pN at a;split at a
 ·cases a
  simp only[F,ah,aa]at b;unfold jI at b;simp only[aM,bS]at b;omega
 ·cases a
def SK:∀k:O,au θ 177 (am rA (pN j_ kz ky (jI k)))
 |0=>afG
 |k+1=>afF (SK k)
def akj:au θ 177 (am rA (pN j_ kz ky (jI 1002))):=SK 1002
abbrev Mi:τ:=.iface 51 (.agg #[])
def Nb(tmps:aU τ)(w:υ):(results f36 tmps).run θ w=.ok (.tuple #[]) w:=by simp[results]
def acX(p:c9)(w:υ):CallsD θ 36 #[.pointer (γ p)] .returning w λe c w'=>e=.returned (.tuple #[])/\c=.returning/\w'=w:=by
 have mixed:=mixed;refine H9 aaE rfl λa d b=>?_
 apply wpS_seq;apply Il;simp[wpOpsS,go_sem,Ie,b,aaM,Hv];apply Ik
 go_wp2
 exact⟨rfl,.returning,by cases a;simp at b;subst b;rfl,.tuple #[],Nb _ _,rfl,rfl,rfl⟩
def apq(w:υ):(zt Mi 20 51 ε).run θ w=.ok (.tuple #[.agg #[],.bool ε]) w:=nj (by kernel_rfl) w
def aps(w:υ):(zt Cx 20 51 ε).run θ w=.ok (.tuple #[.agg #[],.bool η]) w:=nj (by kernel_rfl) w
def apt(w:υ):(zt Cx 20 52 ε).run θ w=.ok (.tuple #[.agg #[],.bool ε]) w:=nj (by kernel_rfl) w
abbrev OA:ρ:=⟨#[119,104,97,116]⟩
abbrev Ms:ρ:=⟨#[110,111]⟩
def Rv(p:c9)(x:τ)(a:E PanicEntry)(w:υ)(d:w.cell? p=γ x)(f:w.frozen? p=η)(b:p.block<w.heap.size):CallsD θ 36 #[.pointer (γ p)] (.panicking ({v:=Mi,recovered:=η}::a)) w λe g w'=>e=.returned (.tuple #[])/\g=.panicking ({v:=Mi,recovered:=ε}::a)/\∃o,w'=(w.alloc o).setCell p (.string OA):=by
 have mixed:=mixed;have h:∀o,(w.alloc o).cell? p=γ x:=λo=>(nL (gj w o _ b)).trans d
 have i:∀o,(w.alloc o).frozen? p=η:=λo=>(DZ (gj w o _ b)).trans f
 have k:=apq;refine H9 aaE rfl λc l j=>?_
 apply wpS_seq;apply Il;simp[wpOpsS,go_sem,Ie,j,aaM,Hv];apply Ik
 go_wp2
 refine⟨rfl,_,rfl,.tuple #[],Nb _ _,rfl,rfl,_,rfl⟩
def acY(p:c9)(x:τ)(a:E PanicEntry)(w:υ)(d:w.cell? p=γ x)(f:w.frozen? p=η)(b:p.block<w.heap.size):CallsD θ 36 #[.pointer (γ p)] (.panicking ({v:=Cx,recovered:=η}::a)) w λe g w'=>e=.returned (.tuple #[])/\g=.panicking ({v:=Cx,recovered:=ε}::a)/\∃o,w'=(w.alloc o).setCell p (.string Ms):=by
 have mixed:=mixed;have h:∀o,(w.alloc o).cell? p=γ x:=λo=>(nL (gj w o _ b)).trans d
 have i:∀o,(w.alloc o).frozen? p=η:=λo=>(DZ (gj w o _ b)).trans f
 have k:=aps;have l:=apt;refine H9 aaE rfl λc m j=>?_
 apply wpS_seq;apply Il;simp[wpOpsS,go_sem,Ie,j,aaM,Hv];apply Ik
 go_wp2
 refine⟨rfl,_,rfl,.tuple #[],Nb _ _,rfl,rfl,_,rfl⟩
def qB:E (E ψ×κ×bq):=[([97,100,100],ε,19),([97,114,101,97],ε,33),([97,116],ε,31),([98,97,99,107],η,26),([102,97,115,116,101,114],ε,25),([102,111,108,100],η,29),([103,114,105,100],ε,32),([105,110],ε,21),([108,97,116,101,114],ε,24),([109,105,114,114,111,114],η,27),([111,117,116],ε,22),([112,101,114,105,111,100],η,30),([112,108,111,116],ε,35),([115,101,116],ε,18),([115,104,111,119],η,28),([115,117,109],η,34),([116,105,109,101,115],ε,20),([116,117,114,110],ε,23)]
def mC(l:E ψ):χ (κ×bq):=(qB.find? λx=>x.1==l).map (·.2)
def rC:τ->χ (mI Unit×E DG)
 | .agg (bj [.bool r,.func (.func f) (bj []) (bj [])])=>γ (.agg [.lit (.bool r),.lit (.int .i64 f)],[])
 | .agg (bj [.bool r,.nilFunc])=>γ (.agg [.lit (.bool r),.lit (.int .i64 (-1))],[])
 |_=>ζ
def dC(x:E ψ×κ×bq):Lit×mI Unit:=(.string x.1,.agg [.lit (.bool x.2.1),.lit (.int .i64 x.2.2)])
def Hc:mI Unit:=.map (qB.map dC)
def WE(d:mI Unit)(x:E ψ×κ×bq):mI Unit:=d.put (dC x).1 (dC x).2
def Zc:E (E ψ×κ×bq):=[([115,101,116],ε,18),([97,100,100],ε,19),([116,105,109,101,115],ε,20),([105,110],ε,21),([111,117,116],ε,22),([116,117,114,110],ε,23),([108,97,116,101,114],ε,24),([102,97,115,116,101,114],ε,25),([98,97,99,107],η,26),([109,105,114,114,111,114],η,27),([115,104,111,119],η,28),([102,111,108,100],η,29),([112,101,114,105,111,100],η,30),([97,116],ε,31),([103,114,105,100],ε,32),([97,114,101,97],ε,33),([115,117,109],η,34),([112,108,111,116],ε,35)]
def apu:Zc.foldl WE (.map [])=Hc:=by kernel_rfl
def agC(l:E ψ):Maps.has Hc (.string l)=(mC l).isSome:=by
 show(qB.map dC).any (λp=>p.1.sameKey (.string l))=_
 unfold mC;generalize qB=a;induction a with
 |nil=>rfl
 |cons x a b=>
  rw[eD,List.any_cons,HE];show(x.1==l||_)=_
  cases h:x.1==l with
  |true=>rfl
  |false=>rw[Bool.false_or];exact b
def aby(l:E ψ)(z:mI Unit):Hc.atKey (.string l) z=match mC l with|some y=>.agg [.lit (.bool y.1),.lit (.int .i64 y.2)]|none=>z:=by
 unfold Hc DataW.atKey mC;simp only;generalize qB=a;induction a with
 |nil=>rfl
 |cons x a b=>
  rw[eD,HE,HE];have e:(dC x).1.sameKey (.string l)=(x.1==l):=rfl;rw[e];cases h:(x.1==l)with
  |true=>rfl
  |false=>exact b
def M1{v:τ}{r:κ}{f:bq}{ps:E DG}(h:rC v=γ (.agg [.lit (.bool r),.lit (.int .i64 f)],ps)):v=.agg #[.bool r,.func (.func f) #[] #[]]:=by
 unfold rC at h;split at h
 ·simp only[ar,cG,OO,lA,OP,atX,aad,aa,bo]at h
  obtain⟨⟨rfl,h⟩,_⟩:=h;have:=Int.ofNat.inj h;subst this;rfl
 ·simp only[ar,cG,OO,lA,OP,aad,aa,bo]at h
  obtain⟨⟨_,h⟩,_⟩:=h;exact aO h (by omega)
 ·cases h
def N_{l:E ψ}{r:κ}{f:bq}(h:mC l=γ (r,f)):(l,r,f)∈qB:=by unfold mC at h;simp only[dt]at h;obtain⟨x,c,d⟩:=h;have g:=List.mem_of_find?_eq_some c;have i:=List.find?_some c;have e:=eq_of_beq i;obtain⟨a,b⟩:=x;simp only at e d;subst e d;exact g
def UL:Maps.Keyed θ 9:=Maps.string_keyed (by kernel_rfl)
def Yg:θ.underlying 49=γ (.map 9 48):=by kernel_rfl
def Yi:θ.underlying 9=γ .string:=by kernel_rfl
def QF(b:O):E (E ψ×κ×bq)->υ->υ->Prop
 |[],w,a=>w=a
 |x::l,w,a=>∃c,(Instr.mapUpdate 49 (.map (γ b)) (.string ⟨x.1.toArray⟩) (.agg #[.bool x.2.1,.func (.func x.2.2) #[] #[]])).run θ w=.ok () c/\QF b l c a
def Sq{b:O}:∀(l:E (E ψ×κ×bq))(n:O)(D:mI Unit)(w:υ),w.ownsMap θ 9 rC b n D->(∀x∈l,x.1.length<=1000)->n+l.length<=1000->∃w',QF b l w w'/\w'.ownsMap θ 9 rC b (n+l.length) (l.foldl WE D)/\w.mapTurned w' b
 |[],n,D,w,h,_,_=>⟨w,rfl,h,h.turned_refl⟩
 |x::l,n,D,w,h,a,e=>by rw[cn]at e;obtain⟨c,f,g,i⟩:=h.store UL Yg (by unfold maxLen;omega) (key:=.string ⟨x.1.toArray⟩) (val:=.agg #[.bool x.2.1,.func (.func x.2.2) #[] #[]]) (kl:=(dC x).1) (d:=(dC x).2) (ps:=[]) (atx Yi (by rw[mq];have:=a x je;unfold maxLen;omega)) rfl;obtain⟨m,o,p,q⟩:=Sq l (n+1) _ c g (λy r=>a y (lB _ r)) (by omega);refine⟨m,⟨c,f,o⟩,?_,i.trans q⟩;rw[cn,show n+(l.length+1)=n+1+l.length by omega];exact p
abbrev l_:=E ψ->E Wh->E ψ->χ (E Wh×E ψ)
def li(a:l_)(L:E Wh)(line:E ψ):E Wh×E ψ:=
 match mC (e_ line [32]).1 with
 |some (r,_)=>bif r==(e_ line [32]).2.2 then(match a (e_ line [32]).1 L (e_ line [32]).2.1 with
  |some x=>x
  |none=>(L,[110,111]))else(L,[119,104,97,116])
 |none=>(L,[119,104,97,116])
def zZ(a:l_)(line:E ψ):Prop:=∀r f,mC (e_ line [32]).1=γ (r,f)->r=(e_ line [32]).2.2->jg f (a (e_ line [32]).1)
def aaW(D:O)(x:E Wh×E ψ)(w:υ)(e:jt)(w':υ):Prop:=
 e=.returned (.string ⟨x.2.toArray⟩)/\dM D x.1 w'/\bH x.1/\Fr (cj w D) w w'
def acn(s:ρ)(w:υ)(a:aY (aq w) w)(hs:s.size<=1000):aH θ 37 #[.string s,.string ⟨#[32]⟩] w (f_ w (.tuple #[.string ⟨(e_ s.data.toList [32]).1.toArray⟩,.string ⟨(e_ s.data.toList [32]).2.1.toArray⟩,.bool (e_ s.data.toList [32]).2.2])):=
 Hf MH [.string s,.string ⟨#[32]⟩] (δ:={val:=.v (.tuple #[.string (oV s ⟨#[32]⟩),.string (gr s ⟨#[32]⟩),.bool (EP s ⟨#[32]⟩)]),ap:=[Δ s.size 4294967281]}) rfl rfl (by simp only[F,ah,aa,bS];omega) rfl rfl a
def atm(w:υ):(zeroValue 48).run θ w=.ok (.agg #[.bool η,.nilFunc]) w:=by kernel_rfl
def al_{v:τ}{ps:E DG}(h:rC v=γ (.agg [.lit (.bool η),.lit (.int .i64 (-1))],ps)):v=.agg #[.bool η,.nilFunc]:=by
 unfold rC at h;split at h
 ·simp only[ar,cG,OO,lA,OP,aad,aa,bo]at h
  obtain⟨⟨_,h⟩,_⟩:=h;exact aO h (by omega)
 ·simp only[ar,cG,OO,lA,OP,atX,aa]at h
  obtain⟨rfl,_⟩:=h;rfl
 ·cases h
def asS:(qB.all λx=>(match θ.funcs[x.2.2]?with|some fn=>fn.body.isSome|none=>η))=ε:=by kernel_rfl
def aeJ{f:bq}{l:E ψ}{r:κ}(h:mC l=γ (r,f))(args:aU τ)(w:υ):(callFunc f args).run θ w=.ok (.enter f args) w:=by
 have a:=bX.1 asS _ (N_ h);simp only at a;cases b:θ.funcs[f]?with
 |none=>rw[b]at a;cases a
 |some fn=>rw[b]at a;exact enters f fn b a args w
def RL(l c:E ψ):(e_ l c).1.length<=l.length/\(e_ l c).2.1.length<=l.length:=by
 unfold e_;split
 ·simp only[oG,oF];omega
 ·simp
def SE{w W:υ}(f:Fr (aq w) w W)(o:Obj)(v:τ):Fr (aq w) w ((W.alloc o).setCell ⟨w.heap.size,0,ζ⟩ v):=by have a:Fr (aq w) w (W.alloc o):=f.trans (eR (fk W o ζ) λk e=>by cases e);refine a.trans ⟨rfl,rfl,rfl,by simp[l9],λk _ b=>kj _ _ _ _ (λe=>b ?_)⟩;exact HL e.symm
def bl.box{w:υ}{B:O}{v x y:τ}{L:E Wh}{b:O×O}(h:bl w v L)(c:w.heap[B]?=γ (.cells #[x] 9 b)):bl (w.setCell ⟨B,0,ζ⟩ y) v L:=by
 refine h.kept (by simp[l9]) λk _ ⟨l,d,a⟩=>kj _ _ _ _ λe=>?_
 have e:k=B:=e;rw[e,c]at a;simp only[ar,qK]at a;exact aO a.2.1 (by decide)
def dM.box{D B:O}{L:E Wh}{w:υ}{x y:τ}{a:O×O}(h:dM D L w)(b:w.heap[B]?=γ (.cells #[x] 9 a))(d:B≠D):dM D L (w.setCell ⟨B,0,ζ⟩ y):=by obtain⟨p,n,c,e,f⟩:=h;refine⟨p,n,c,?_,f.box b⟩;rw[kj _ _ _ _ (show D≠B from d.symm)];exact e
def afA{w W:υ}{D:O}(f:Fr (cj w D) w W)(o:Obj)(v:τ):Fr (cj w D) w ((W.alloc o).setCell ⟨w.heap.size,0,ζ⟩ v):=by have a:Fr (cj w D) w (W.alloc o):=f.trans (eR (fk W o ζ) λk e=>by cases e);refine a.trans ⟨rfl,rfl,rfl,by simp[l9],λk _ b=>kj _ _ _ _ (λe=>b ?_)⟩;exact .inl (HL e.symm)
def afC{w W:υ}{D:O}(f:Fr (cj w D) w W)(v:τ):Fr (cj w D) w (W.setCell ⟨w.heap.size,0,ζ⟩ v):=by refine f.trans ⟨rfl,rfl,rfl,by simp[l9],λk _ a=>kj _ _ _ _ (λe=>a ?_)⟩;exact .inl (HL e.symm)
def ab2{Sg:l_}{D:O}{L:E Wh}(s:ρ){w:υ}(hd:dM D L w)(ht:aY (cj w D) w)(v:bH L)(hs:s.size<=1000)(n:zZ Sg s.data.toList):aH θ 10 #[.pointer (γ ⟨D,0,ζ⟩),.string s] w (aaW D (li Sg L s.data.toList) w):=by
 have mixed:=mixed;have hmf:∀(fn:Fn)(first cap:aU τ)(w:υ),(OV fn first cap).run θ w=.ok (.func fn first cap) w:=λ_ _ _ _=>rfl
 obtain⟨wm,q⟩:∃wm,(w.alloc (.cells #[.string ⟨#[]⟩] 9)).alloc (.map #[] 0)=wm:=⟨_,rfl⟩;have hm0:wm.ownsMap θ 9 rC (w.heap.size+1) 0 (.map []):=by have:=World.ownsMap_made (w.alloc (.cells #[.string ⟨#[]⟩] 9)) θ 9 rC;rw[q]at this;simpa using this
 obtain⟨wf,R,z,p⟩:=Sq Zc 0 _ wm hm0 (by decide) (by decide);rw[apu]at z;obtain⟨x0,h0,⟨x1,h1,⟨x2,h2,⟨x3,h3,⟨x4,h4,⟨x5,h5,⟨x6,N,⟨x7,h7,⟨x8,h8,⟨x9,h9,⟨x10,h10,⟨x11,h11,⟨x12,h12,⟨x13,h13,⟨x14,h14,⟨x15,h15,⟨x16,h16,⟨l,h17,rfl⟩⟩⟩⟩⟩⟩⟩⟩⟩⟩⟩⟩⟩⟩⟩⟩⟩⟩:=R;simp only[]at h0 h1 h2 h3 h4 h5 N h7 h8 h9 h10 h11 h12 h13 h14 h15 h16 h17;have hmk:(Instr.makeMap 49 ζ).run θ (w.alloc (.cells #[.string ⟨#[]⟩] 9))=.ok (.map (γ (w.heap.size+1))) wm:=by rw[run_makeMap,<-q];simp
 clear hm0;have fa:Fr (aq w) w l:=by
  refine(dh (eR (fk w (.cells #[.string ⟨#[]⟩] 9) ζ) λk e=>by cases e) (eR (M:=aq _) (q▸fk (w.alloc (.cells #[.string ⟨#[]⟩] 9)) (.map #[] 0) ζ) λk e=>by cases e)).trans (eR p.grown λk e=>?_);cases e;show w.heap.size<=w.heap.size+1
  omega
 have a:l.heap[w.heap.size]?=γ (.cells #[.string ⟨#[]⟩] 9 (0,0)):=by rw[p.grown.block _ (by rw[<-q];simp;omega) (by simp),<-q];exact(gj (w.alloc (.cells #[.string ⟨#[]⟩] 9)) _ w.heap.size (by simp)).trans (l8 _ _)
 have hc:=acn s l (ht.nw.fh fa) hs;have hsz:(e_ s.data.toList [32]).1.length<=1000:=cD (RL _ _).1 (by rw[show s.data.toList.length=s.size from rfl];exact hs);have hsr:(e_ s.data.toList [32]).2.1.length<=1000:=cD (RL _ _).2 (by rw[show s.data.toList.length=s.size from rfl];exact hs);have d:=λ(c:υ)(g:Fr (aq l) l c)=>(z.kept (My g) (by simp)).look_ok UL Yg (atm c) rfl (atx Yi (s:=⟨(e_ s.data.toList [32]).1.toArray⟩) (by rw[mq];unfold maxLen;omega))
 simp only[agC,aby]at d;clear p q z;unfold li;unfold zZ at n;generalize(e_ s.data.toList [32]).2.1=rst at*;generalize(e_ s.data.toList [32]).2.2=di at*;generalize(e_ s.data.toList [32]).1=wd at*;cases v:mC wd with
 |none=>
  simp only[v]at d;clear n v
  go_enter_defers PW,P9
  go_wp2_with (go_at_call 37;refine hc.mono ?_;rintro e c ⟨rfl,g⟩;obtain⟨lv,S,U,A⟩:=d c g;obtain rfl:=al_ A;clear A)
  have B:w.heap.size<c.heap.size:=eE (cm.1 a).1 g.size;have b:(c.alloc (.cells #[.bool η,.nilFunc] 48)).heap[w.heap.size]?=γ (.cells #[.string ⟨#[]⟩] 9 (0,0)):=(gj _ _ _ B).trans ((g.block _ (cm.1 a).1 (fY.2 (cm.1 a).1)).trans a);have X:Fr (aq w) w (c.alloc (.cells #[.bool η,.nilFunc] 48)):=(dh fa g).trans (eR (fk c _ ζ) λk e=>by cases e);generalize hW:c.alloc (.cells #[.bool η,.nilFunc] 48)=W at*;have i:w.heap.size<W.heap.size:=(cm.1 b).1;have j:W.cell? ⟨w.heap.size,0,ζ⟩=γ (.string ⟨#[]⟩):=by rw[gR W _ 0 #[.string ⟨#[]⟩] _ (0,0) b];rfl
  have u:W.frozen? ⟨w.heap.size,0,ζ⟩=η:=se W _ 0 #[.string ⟨#[]⟩] _ b;refine wC (f:=36) (args:= #[.pointer (γ ⟨w.heap.size,0,ζ⟩)]) (by simp) (by simp[go_sem]) ?_;refine(Rv ⟨w.heap.size,0,ζ⟩ (.string ⟨#[]⟩) [] _ j u i).mono ?_;rintro e u' w'' ⟨rfl,rfl,o,rfl⟩;have C:(W.alloc o).cell? ⟨w.heap.size,0,ζ⟩=γ (.string ⟨#[]⟩):=(nL (gj W o _ i)).trans j;have G:=SE X o (.string OA);simp[wa,wD,results,Qc,go_sem,C];exact⟨rfl,hd.fr G,v,G.oh⟩
 |some rf=>
  obtain⟨r,f⟩:=rf;simp only[v]at d;have ew:=aeJ v;have n:=n r f v;clear v;cases H:r==di with
  |false=>
   clear n;simp only[H,a_]
   go_enter_defers PW,P9
   go_wp2_with (go_at_call 37;refine hc.mono ?_;rintro e c ⟨rfl,g⟩;obtain⟨lv,S,U,A⟩:=d c g;obtain rfl:=M1 A;clear A)
   have B:w.heap.size<c.heap.size:=eE (cm.1 a).1 g.size;have b:(c.alloc (.cells #[.bool r,.func (.func f) #[] #[]] 48)).heap[w.heap.size]?=γ (.cells #[.string ⟨#[]⟩] 9 (0,0)):=(gj _ _ _ B).trans ((g.block _ (cm.1 a).1 (fY.2 (cm.1 a).1)).trans a);have X:Fr (aq w) w (c.alloc (.cells #[.bool r,.func (.func f) #[] #[]] 48)):=(dh fa g).trans (eR (fk c _ ζ) λk e=>by cases e);generalize hW:c.alloc (.cells #[.bool r,.func (.func f) #[] #[]] 48)=W at*;have i:w.heap.size<W.heap.size:=(cm.1 b).1;have j:W.cell? ⟨w.heap.size,0,ζ⟩=γ (.string ⟨#[]⟩):=by rw[gR W _ 0 #[.string ⟨#[]⟩] _ (0,0) b];rfl
   have u:W.frozen? ⟨w.heap.size,0,ζ⟩=η:=se W _ 0 #[.string ⟨#[]⟩] _ b;refine wC (f:=36) (args:= #[.pointer (γ ⟨w.heap.size,0,ζ⟩)]) (by simp) (by simp[go_sem]) ?_;refine(Rv ⟨w.heap.size,0,ζ⟩ (.string ⟨#[]⟩) [] _ j u i).mono ?_;rintro e u' w'' ⟨rfl,rfl,o,rfl⟩;have C:(W.alloc o).cell? ⟨w.heap.size,0,ζ⟩=γ (.string ⟨#[]⟩):=(nL (gj W o _ i)).trans j;have G:=SE X o (.string OA);simp[wa,wD,results,Qc,go_sem,C];exact⟨rfl,hd.fr G,v,G.oh⟩
  |true=>
   obtain rfl:=eq_of_beq H;simp only[H,aZ];clear H;have I:=λ(W:υ)(h:dM D L W)(h2:aY (cj W D) W)=>n rfl (D:=D) (L:=L) ⟨rst.toArray⟩ h h2 v (by rw[mq];exact hsr)
   clear n;have m:∀c,Fr (aq l) l c->∀o,w.heap.size<(c.alloc o).heap.size/\(c.alloc o).heap[w.heap.size]?=γ (.cells #[.string ⟨#[]⟩] 9 (0,0))/\Fr (aq w) w (c.alloc o):=λc g o=>by have B:w.heap.size<c.heap.size:=eE (cm.1 a).1 g.size;refine⟨by simp;omega,(gj _ _ _ B).trans ((g.block _ (cm.1 a).1 (fY.2 (cm.1 a).1)).trans a),(dh fa g).trans (eR (fk c _ ζ) λk e=>by cases e)⟩
   clear a fa;have P:=hd.lt;have Q:∀c W o,Fr (aq l) l c->Fr (cj (c.alloc o) D) (c.alloc o) W->w.heap.size<W.heap.size/\W.heap[w.heap.size]?=γ (.cells #[.string ⟨#[]⟩] 9 (0,0))/\Fr (cj w D) w W:=λc W o g f3=>by obtain⟨e1,e2,e3⟩:=m c g o;refine⟨eE e1 f3.size,(f3.block _ e1 λh=>h.elim (λh=>by omega) (λh=>by omega)).trans e2,e3.oh.trans (f3.mono λk _ h=>h.elim (λx=>.inl (cD e3.size x)) .inr)⟩
   have hcell:∀W:υ,W.heap[w.heap.size]?=γ (.cells #[.string ⟨#[]⟩] 9 (0,0))->W.cell? ⟨w.heap.size,0,ζ⟩=γ (.string ⟨#[]⟩)/\W.frozen? ⟨w.heap.size,0,ζ⟩=η:=λW b=>⟨by rw[gR W _ 0 #[.string ⟨#[]⟩] _ (0,0) b];rfl,se W _ 0 #[.string ⟨#[]⟩] _ b⟩
   cases hS:Sg wd L rst with
   |none=>
    simp only[hS]at I⊢;clear hS
    go_enter_defers PW,P9
    go_wp2_with (first|(go_at_call 37;refine hc.mono ?_;rintro e c ⟨rfl,g⟩;obtain⟨lv,S,U,A⟩:=d c g;obtain rfl:=M1 A;clear A)|(refine(I _ (hd.fr (m _ ‹_› _).2.2) (ht.Vy (m _ ‹_› _).2.2.oh)).mono ?_;rintro e W h5;obtain⟨rfl,N⟩:=h5.qk))
    obtain⟨i,b,X⟩:=Q _ _ _ g N.1;have j:W.cell? ⟨w.heap.size,0,ζ⟩=γ (.string ⟨#[]⟩):=by rw[gR W _ 0 #[.string ⟨#[]⟩] _ (0,0) b];rfl
    have u:W.frozen? ⟨w.heap.size,0,ζ⟩=η:=se W _ 0 #[.string ⟨#[]⟩] _ b;refine wC (f:=36) (args:= #[.pointer (γ ⟨w.heap.size,0,ζ⟩)]) (by simp) (by simp[go_sem]) ?_;refine(acY ⟨w.heap.size,0,ζ⟩ (.string ⟨#[]⟩) [] _ j u i).mono ?_;rintro e u' w'' ⟨rfl,rfl,o,rfl⟩;have C:(W.alloc o).cell? ⟨w.heap.size,0,ζ⟩=γ (.string ⟨#[]⟩):=(nL (gj W o _ i)).trans j;have G:=afA X o (.string Ms);have dO:=(N.2.2.fr (eR (fk W o ζ) λk e=>by cases e)).box (y:=.string Ms) ((gj W o _ i).trans b) (HN P);simp[wa,wD,results,Qc,go_sem,C];exact⟨rfl,dO,v,G⟩
   |some x=>
    obtain⟨T,t⟩:=x;simp only[hS]at I⊢;clear hS
    go_enter_defers PW,P9
    go_wp2_with (first|(go_at_call 37;refine hc.mono ?_;rintro e c ⟨rfl,g⟩;obtain⟨lv,S,U,A⟩:=d c g;obtain rfl:=M1 A;clear A)|(refine(I _ (hd.fr (m _ ‹_› _).2.2) (ht.Vy (m _ ‹_› _).2.2.oh)).mono ?_;rintro e W h5;obtain⟨rfl,N⟩:=h5.po;clear h5;obtain⟨i,b,X⟩:=Q _ _ _ ‹_› N.1;obtain⟨j,u⟩:=hcell W b))
    refine wC (f:=36) (args:= #[.pointer (γ ⟨w.heap.size,0,ζ⟩)]) (by simp) (by simp[go_sem]) ?_;refine(acX ⟨w.heap.size,0,ζ⟩ _).mono ?_;rintro e u' w'' ⟨rfl,rfl,rfl⟩;have G:=afC X (.string ⟨t.toArray⟩);have dO:=N.2.2.1.box (y:=.string ⟨t.toArray⟩) b (HN P);simp[wa,wD,results,Qc,go_sem,j];exact⟨rfl,dO,N.2.2.2,G⟩
def eu(b:O)(l:E ψ)(w:υ):Prop:=Lib.IsBuilderF 34 5 b b (Lib.byteCells l) w
def eu.lt{b:O}{l:E ψ}{w:υ}(h:eu b l w):b<w.heap.size:=h.elim (λh=>h.lt) λh=>h.lt
def eu.new(w:υ):eu w.heap.size [] (w.alloc (.cells #[.pointer ζ,.slice ζ 0 0] 34)):=Lib.IsBuilderF.of (Lib.fresh_isBuilder _ _ w)
def Rg{b:O}{p:τ}{l:E τ}{w w':υ}(h:Lib.BuilderAtF 34 5 b b p l w)(j:∀(k:O)(c:aU τ)(a:O×O),(w.heap[k]?=γ (.cells c 34 a)\/w.heap[k]?=γ (.cells c 5 a))->w'.heap[k]?=w.heap[k]?):Lib.BuilderAtF 34 5 b b p l w':=by
 obtain⟨o,v,m,⟨q,d⟩,e⟩:=h;refine⟨o,v,(j _ _ _ (.inl m)).trans m,⟨q,?_⟩,e⟩;rcases d with d|⟨g,f,i,a,r,s,n,t⟩
 ·exact .inl d
 ·exact .inr ⟨g,f,i,a,r,s,(j _ _ _ (.inr n)).trans n,t⟩
def eu.kept{b:O}{l:E ψ}{w w':υ}(h:eu b l w)(a:∀(k:O)(c:aU τ)(d:O×O),(w.heap[k]?=γ (.cells c 34 d)\/w.heap[k]?=γ (.cells c 5 d))->w'.heap[k]?=w.heap[k]?):eu b l w':=
 h.elim (λh=>.inl (Rg h a)) λh=>.inr (Rg h a)
def jV(b:O)(w w':υ):Prop:=Below b w w'/\Lib.OthersKept 5 (γ b) w w'
def acW{b:O}{l:E ψ}{w:υ}(s:ρ)(h:eu b l w)(c:l.length+s.size<=140737488355328):aH θ 9 #[.pointer (γ ⟨b,0,ζ⟩),.string s] w λe w'=>e=.returned (.tuple #[.int .i64 s.size,.nilIface])/\eu b (l++s.data.toList) w'/\jV b w w':=by refine(Any.Builder_WriteString_k {Br with} AG b b _ s w h (by rw[Lib.byteCells_length];exact c) (HM h.lt)).mono ?_;rintro e w' ⟨rfl,a,d,f⟩;refine⟨rfl,?_,d,f⟩;rw[Lib.strCells_eq,<-Lib.byteCells_append]at a;exact .inr a
def xb{b:O}{l:E ψ}{w:υ}(x:E ψ)(h:eu b l w)(a:l.length+x.length<=100000000):aH θ 9 #[.pointer (γ ⟨b,0,ζ⟩),.string ⟨x.toArray⟩] w λe w'=>∃v,e=.returned v/\eu b (l++x) w'/\jV b w w':=
 (acW ⟨x.toArray⟩ h (by rw[mq];exact cD a (by decide))).mono λ_ _ h=>⟨_,h.1,h.2⟩
def JM{b:O}{l:E ψ}{w:υ}(h:eu b l w):aH θ 12 #[.pointer (γ ⟨b,0,ζ⟩)] w λe w'=>e=.returned (.string ⟨l.toArray⟩)/\jV b w w':=by refine(Any.Builder_String_any_k {Br with} AG b b l w h (HM h.lt)).mono ?_;rintro e w' ⟨rfl,_,a,c⟩;exact⟨rfl,a,c⟩
def jV.adX{b D:O}{L:E Wh}{w w':υ}(h:jV b w w')(d:D<b)(f:¬sw w b)(g:dM D L w):dM D L w':=by obtain⟨p,n,c,i,j⟩:=g;refine⟨p,n,c,(h.1.block D d).trans i,j.kept h.1.size λk _ ⟨l,o,a⟩=>?_⟩;rw[a];exact h.2 k _ a (λe=>f (by cases e;exact⟨_,_,a⟩)) λc m e=>by simp only[qK]at e;exact aO e.2.1 (by decide)
def eu.ne{b:O}{l:E ψ}{w:υ}(h:eu b l w):¬sw w b:=λ⟨c,e,d⟩=>by
 rcases h with⟨_,v,a,_⟩|⟨_,v,a,_⟩
 ·rw[d]at a
  simp only[ar,qK]at a;exact aO a.2.1 (by decide)
 ·rw[d]at a
  simp only[ar,qK]at a;exact aO a.2.1 (by decide)
def eu.fr{b D:O}{l:E ψ}{w w':υ}(h:eu b l w)(d:∃c i,w.heap[D]?=γ (.cells c 30 i))(f:Fr (cj w D) w w'):eu b l w':=by
 refine h.kept λk c i a=>f.block k ?_ λe=>?_
 ·rcases a with a|a<;>exact(cm.1 a).1
 ·have g:k<w.heap.size:=by rcases a with a|a<;>exact(cm.1 a).1
  rcases e with e|rfl
  ·exact aO e (fY.2 g)
  ·obtain⟨m,j,d⟩:=d
   rcases a with a|a
   ·rw[d]at a
    simp only[ar,qK]at a;exact aO a.2.1 (by decide)
   ·rw[d]at a
    simp only[ar,qK]at a;exact aO a.2.1 (by decide)
def qt(a:l_)(x:E Wh×E ψ)(line:E ψ):E Wh×E ψ:=((li a x.1 line).1,x.2++((li a x.1 line).2++[10]))
def jk(a:l_)(b:E (E ψ)):E Wh×E ψ:=b.foldl (qt a) ([],[])
def lj(s:E ψ):E (E ψ):=(cW 10 s).dropLast
def q1(x:E Wh×E ψ):E ψ:=x.2++([119,104,101,101,108,115,32]++(bc x.1.length++[10]))
def R9(a:l_)(b:E (E ψ))(l:E ψ):jk a (b++[l])=qt a (jk a b) l:=by unfold jk;rw[zz];rfl
def Yj{w w':υ}{D:O}(h:aY (aq w) w)(f:Fr (aq w) w w')(a:w.heap.size<=D):aY (cj w' D) w':=
 (h.fr f).mono λ_ _ b=>b.elim (λx=>cD f.size x) (λe=>e▸a)
def jV.fr{b:O}{a w w':υ}(h:jV b w w')(c:a.heap.size<=b)(f:Fr (aq a) a w):Fr (aq a) a w':=
 f.trans ⟨h.1.os,h.1.tape,h.1.output,h.1.size,λk _ d=>h.1.block k (eE (fY.1 d) c)⟩
def Ao(c:ψ):∀l:E ψ,(cW c l).length<=l.length+1
 |[]=>by simp[cW]
 |b::l=>by
  have a:=Ao c l;unfold cW;rw[cn];split
  ·rw[cn];omega
  ·split
   ·rename_i x d e
    rw[e,cn]at a;rw[cn];omega
   ·simp
def om(ws:E (E ψ)):Obj:=.cells ((ws.map λl=>(⟨l.toArray⟩:ρ)).map cZ).toArray 9
def Xc{ws:E (E ψ)}{w:υ}{G:O}(h:w.heap[G]?=γ (om ws))(j:O)(a:j<ws.length):w.cell? ⟨G,j,ζ⟩=γ (.string ⟨ws[j].toArray⟩):=by unfold pI;simp only;rw[h];simp[om,a]
def Xd{w a:υ}{ws:E (E ψ)}(h:a=w.alloc (.cells ((ws.map λl=>(⟨l.toArray⟩:ρ)).map cZ).toArray 9)):Fr (aq w) w a/\a.heap[w.heap.size]?=γ (om ws):=by subst h;exact⟨eR (fk w _ ζ) (λk e=>by cases e),l8 _ _⟩
def anJ(ws:E (E ψ))(c:aU τ)(a:O×O):om ws≠ .cells c 5 a:=λe=>by simp only[om,qK]at e;exact aO e.2.1 (by decide)
def uw(a b:E ψ):((⟨a.toArray⟩:ρ)++⟨b.toArray⟩)=⟨(a++b).toArray⟩:=by apply ρ.ext;simp[ByteArray.data_append]
def acQ{z:l_}(s:ρ){w:υ}(ht:aY (aq w) w)(hs:s.size<=900)(I:∀l∈lj s.data.toList,zZ z l)(f:∀k,(jk z ((lj s.data.toList).take k)).2.length<=90000000)(hL:∀k,(jk z ((lj s.data.toList).take k)).1.length<=100000):aH θ 5 #[.string s] w (f_ w (.string ⟨(q1 (jk z (lj s.data.toList))).toArray⟩)):=by
 have mixed:=mixed;have hs1:(s.size:Z)<=900:=by omega
 obtain⟨C,u⟩:∃C,(w.alloc (.cells #[.slice ζ 0 0] 30)).alloc (.cells #[.pointer ζ,.slice ζ 0 0] 34)=C:=⟨_,rfl⟩;have f0:Fr (aq w) w C:=u▸(dh (eR (fk w _ ζ) λk e=>by cases e) (eR (fk _ _ ζ) λk e=>by cases e));have M:dM w.heap.size [] C:=by refine⟨ζ,0,0,?_,bl.nil _⟩;rw[<-u,gj _ _ _ (by simp)];exact l8 _ _
 have hb0:eu (w.heap.size+1) [] C:=by have:=eu.new (w.alloc (.cells #[.slice ζ 0 0] 30));rw[u]at this;simpa using this
 have hz0:w.heap.size+1<C.heap.size:=by rw[<-u];simp
 obtain⟨m,hm⟩:=ze (ht.fh f0);have A:=OF {s5 with} s5.i9 s ⟨#[10]⟩ m C (by omega) hm (by decide);have hl:=tz s ⟨#[10]⟩ (by decide);have hcu:=CK s 10;rw[show zw ⟨#[10]⟩ 0 (zv s ⟨#[10]⟩) s=dr s ⟨#[10]⟩from rfl,<-hl,hcu,cC]at A;have hne:cW 10 s.data.toList≠ []:=RG _ _;have hwl:(cW 10 s.data.toList).length<=901:=cD (Ao 10 _) (by rw[show s.data.toList.length=s.size by rw[lx];rfl];omega);have N:∀x∈cW 10 s.data.toList,x.length<=1000:=λx hx=>by
  have:=JW _ x hx;have e:s.data.toList.length=s.size:=by rw[lx];rfl
  omega
 unfold lj at*;generalize cW 10 s.data.toList=d at*;obtain⟨n,hn⟩:∃n,d.length=n+1:=⟨d.length-1,by have:=List.length_pos_iff.2 hne;omega⟩;rw[hn]at A;have hn1:(n:Z)<=900:=by omega
 clear hl hcu hm
 go_enter aaG,ntmps5
 go_wp2_with (go_at_call 8;refine A.mono ?_;rintro e w1 ⟨rfl,hw1⟩;obtain⟨f1,c1⟩:=Xd hw1;clear hw1)
 obtain⟨G,hG⟩:∃G,G=C.heap.size:=⟨_,rfl⟩;have hGz:w.heap.size+1<G:=by omega
 rw[<-hG]at c1⊢;have hd1:=M.fr f1;have hb1:=hb0.fr (D:=w.heap.size) (by obtain⟨p,n,c,h,_⟩:=M;exact⟨_,_,h⟩) f1.oh;have P:=dh f0 f1;clear A M hb0 f0 f1 hz0 u hG
 go_loopw [21] (λi wr=>∃(k:O)(X:E Wh×E ψ),k<=n/\i=.int .i64 k/\X=jk z (d.dropLast.take k)/\dM w.heap.size X.1 wr/\bH X.1/\eu (w.heap.size+1) X.2 wr/\Fr (aq w) w wr/\wr.heap[G]?=γ (om d)) (λi _=>n-(intOf i).toNat)
 case atStart=>exact⟨0,([],[]),eF _,rfl,rfl,hd1,xO,hb1,P,c1⟩
 case round=>
  obtain⟨k,X,hk,rfl,hX,hd,hT,hb,fr,cr⟩:=hrel;by_cases hlt:k<n
  ·have hkw:k<d.length:=by omega
   have hkl:k<d.dropLast.length:=by rw[Pa];omega
   have hc:=Xc cr k hkw;have Q:d.dropLast[k]=d[k]:=List.getElem_dropLast _;have B:jk z (d.dropLast.take (k+1))=qt z X d[k]:=by rw[wl hkl,R9,<-hX,Q]
   have a:=f (k+1);rw[B]at a;have ha:=ab2 ⟨d[k].toArray⟩ hd (Yj ht fr (aR _)) hT (by rw[mq];exact N _ (ko hkw)) (I _ (by rw[<-Q];exact ko hkl));have hlt2:(k:Z)<n:=by omega
   rw[show(a8 d[k].toArray).data.toList=d[k]from rfl]at ha;unfold qt at B a;generalize li z X.1 d[k]=y at*;obtain⟨T,t⟩:=y;have hyl:t.length+1<=100000000:=by simp at a;omega
   generalize d[k]=l at*;clear I f hL hwl N Q hX;have R:∀b,Fr (cj wr w.heap.size) wr b->eu (w.heap.size+1) X.2 b:=λb j=>hb.fr (by obtain⟨p,n,c,h,_⟩:=hd;exact⟨_,_,h⟩) j
   have next:∀b g,dM w.heap.size T b->bH T->Fr (cj wr w.heap.size) wr b->eu (w.heap.size+1) (X.2++(t++[10])) g->jV (w.heap.size+1) b g->∃(k':O)(X':E Wh×E ψ),k'<=n/\jf .i64 ((k:Z)+1)=.int .i64 k'/\X'=jk z (d.dropLast.take k')/\dM w.heap.size X'.1 g/\bH X'.1/\eu (w.heap.size+1) X'.2 g/\Fr (aq w) w g/\g.heap[G]?=γ (om d):=λb g d2 t2 j b3 H=>by
    refine⟨k+1,(T,X.2++(t++[10])),by omega,by simp,B.symm,H.adX (by omega) (R b j).ne d2,t2,b3,?_,?_⟩
    ·exact H.fr (by omega) (fr.trans (j.mono λk _ h=>h.elim (λx=>cD fr.size x) (λe=>HL e.symm)))
    ·refine H.2 G _ ((j.block G (cm.1 cr).1 λh=>h.elim (λh=>aO h (fY.2 (cm.1 cr).1)) λh=>by omega).trans cr) (λe=>by simp only[ar]at e;omega) (anJ d)
   have S:∀b,Fr (cj wr w.heap.size) wr b->aH θ 9 #[.pointer (γ ⟨w.heap.size+1,0,ζ⟩),.string ((⟨t.toArray⟩:ρ)++⟨#[10]⟩)] b λe U=>∃v,e=.returned v/\eu (w.heap.size+1) (X.2++(t++[10])) U/\jV (w.heap.size+1) b U:=λb j=>by rw[uw t [10]];exact xb (t++[10]) (R b j) (by rw[cv]at a;exact cD a (by decide))
   clear R B hd hb hT fr cr ht P hGz a
   go_wp2_with (first|(go_at_call 10;refine ha.mono ?_;rintro e b ⟨rfl,d2,t2,j⟩)|(go_at_call 9;refine(S _ ‹_›).mono ?_;rintro e g ⟨v,rfl,b3,H⟩;obtain hinv:=next _ _ d2 t2 j b3 H))
   exact⟨hinv,by simp[intOf];omega⟩
  ·have hkn:k=n:=by omega
   subst hkn;rw[oH (by rw[Pa];omega)]at hX;have a:=f k;have W:=hL k;rw[oH (by rw[Pa];omega),<-hX]at a W;obtain⟨L,o⟩:=X;have a:o.length<=90000000:=a;have W:L.length<=100000:=W;obtain⟨p,n0,c,hq,hr⟩:=id hd;obtain⟨p',n',c',hv⟩:=hr.slice;have hnl:n0=L.length:=by obtain⟨ν,_,hv,_⟩:=hr;simp only[VR]at hv;obtain⟨_,_,e,_⟩:=hv;cases e;rfl
   subst hnl;have c0:wr.cell? ⟨w.heap.size,0,ζ⟩=γ (.slice p L.length c):=by rw[gR wr w.heap.size 0 #[.slice p L.length c] _ (0,0) hq];rfl
   have jF:=LA L.length (by omega) (by omega);have hdb:((bM L.length).size:Z)<=20:=by rw[show(bM L.length).size=(bc L.length).length by unfold bM;rw[mq]];omega
   have hit:=Rp L.length wr (ht.fh fr) (by omega) (by omega);have S:∀b,Fr (aq wr) wr b->aH θ 9 #[.pointer (γ ⟨w.heap.size+1,0,ζ⟩),.string ((⟨#[119,104,101,101,108,115,32]⟩:ρ)++bM L.length++⟨#[10]⟩)] b λe U=>∃v,e=.returned v/\(eu (w.heap.size+1) (q1 (L,o)) U/\Fr (aq w) w U):=λb j=>by
    have hb2:=hb.fr (D:=w.heap.size) ⟨_,_,hq⟩ j.oh;have e1:(⟨#[119,104,101,101,108,115,32]⟩:ρ)++bM L.length++⟨#[10]⟩=⟨([119,104,101,101,108,115,32]++(bc L.length++[10])).toArray⟩:=by rw[show bM L.length=⟨(bc L.length).toArray⟩from rfl,show(⟨#[119,104,101,101,108,115,32]⟩:ρ)=⟨([119,104,101,101,108,115,32]:E ψ).toArray⟩from rfl,show(⟨#[10]⟩:ρ)=⟨([10]:E ψ).toArray⟩from rfl,uw,uw,lZ]
    rw[e1];refine(xb _ hb2 ?_).mono ?_
    ·simp only[cv,cn,gm]
     omega
    ·rintro e U ⟨v,rfl,h1,h2⟩
     exact⟨v,rfl,h1,h2.fr (by omega) (dh fr j)⟩
   have hbs:∀g,eu (w.heap.size+1) (q1 (L,o)) g->Fr (aq w) w g->aH θ 12 #[.pointer (γ ⟨w.heap.size+1,0,ζ⟩)] g (f_ w (.string ⟨(q1 (L,o)).toArray⟩)):=λg h3 H=>by refine(JM h3).mono ?_;rintro e U ⟨rfl,h⟩;exact⟨rfl,h.fr (by omega) H⟩
   have hfin:∀_:Unit,q1 (jk z d.dropLast)=q1 (L,o):=λ_=>by rw[<-hX]
   clear hd hb hT hX a cr hq hr hv I f hL hwl N ht jF P c1 hn;generalize q1 (L,o)=r at*;generalize bM L.length=q at*
   go_wp2_with (first|(go_at_call 11;refine hit.mono ?_;rintro e b ⟨rfl,j⟩)|(go_at_call 9;refine(S _ ‹_›).mono ?_;rintro e g ⟨v,rfl,b3,H⟩)|(go_at_call 12;refine(hbs _ ‹_› ‹_›).mono ?_;rintro e w4 ⟨rfl,f4⟩))
   rw[hfin ()]
   go_ret
   exact⟨rfl,f4⟩
def acC(s:ρ)(w:υ)(hs:900<s.size):aH θ 5 #[.string s] w (f_ w (.string ⟨#[116,111,111,32,108,111,110,103,10]⟩)):=by
 have mixed:=mixed;have a:900<(s.size:Z):=by omega
 go_enter aaG,ntmps5
 go_wp2
 go_ret
 exact⟨rfl,Fr.refl _ _⟩
def ah0:mJ:=⟨λ|144=>277|143=>60|219=>121|217=>182|225=>183|224=>184|267=>185|266=>236|314=>237|n=>n,λ|9=>9|4=>4|3=>3|5=>5|46=>193|146=>236|51=>64|n=>n,λ|1=>1|n=>n⟩
def ahZ:Go.Proofs.Lays.n144 θ ah0:=by repeat' (first|kernel_rfl|(intros;kernel_rfl)|decide|constructor)
def UV:mJ:=⟨λ|105=>253|212=>278|99=>279|165=>209|166=>9|170=>254|169=>12|263=>296|264=>297|206=>273|240=>17|241=>247|276=>61|277=>274|n=>n,λ|9=>9|3=>3|4=>4|20=>20|0=>0|46=>193|109=>281|5=>5|72=>34|76=>39|51=>64|146=>236|53=>106|148=>315|70=>31|37=>32|75=>38|127=>56|164=>96|80=>41|n=>n,λ|n=>n⟩
def aif:Go.Proofs.Lays.n105 θ UV:=by repeat' (first|kernel_rfl|(intros;kernel_rfl)|decide|constructor)
def aeT:Builder.Extra θ UV:=by repeat' (first|kernel_rfl|(intros;kernel_rfl)|decide|constructor)
def aic:mJ:=⟨λ|170=>254|n=>n,λ|70=>31|3=>3|0=>0|72=>34|37=>32|5=>5|n=>n,λ|n=>n⟩
def aib:Go.Proofs.Lays.n170 θ aic:=by repeat' (first|kernel_rfl|(intros;kernel_rfl)|decide|constructor)
def aia:mJ:=⟨λ|137=>224|217=>182|266=>236|n=>n,λ|9=>9|5=>5|3=>3|n=>n,λ|n=>n⟩
def ah':Go.Proofs.Lays.n137 θ aia:=by repeat' (first|kernel_rfl|(intros;kernel_rfl)|decide|constructor)
abbrev Gv:τ:=.iface 221 (.agg #[])
abbrev qX:jt:=.panicked [{v:=Gv,recovered:=η}]
def te(w:υ):aH θ 222 #[.bool ε] w λe w'=>e=.returned (.tuple #[])/\w'=w:=by
 have mixed:=mixed
 go_enter func222,ntmps222
 go_wp2
 go_end0
 exact⟨rfl,rfl⟩
def pd(w:υ):aH θ 222 #[.bool η] w λe w'=>e=qX/\w'=w:=by
 have mixed:=mixed
 go_enter func222,ntmps222
 go_wp2
 exact⟨rfl,rfl,rfl⟩
def ag3:∀{l:E ψ},¬l.length=1->gU l=η
 |[],_=>rfl
 |[_],h=>aO rfl h
 |_::_::_,_=>rfl
def aou:∀k:O,k<256->ο (0<=ZS [117,100,110,101,115,119,116] (mQ k))=jN (mQ k):=by decide+kernel
def aov(b:ψ):ο (0<=ZS [117,100,110,101,115,119,116] b)=jN b:=by
 have:=aou b.toNat b.toNat_lt
 rwa [aaN]at this
def acx(l:E ψ)(w:υ)(h:(l.length:Z)<=1000000):aH θ 252 #[.string ⟨l.toArray⟩] w λe w'=>e=.returned (.bool (gU l))/\w'=w:=by
 have mixed:=mixed;by_cases a:l.length=1
 ·match l,a with
  |[b],_=>
   have c:=Any.strings_Contains_one ahZ ⟨#[117,100,110,101,115,119,116]⟩ b w;rw[show(a8 #[117,100,110,101,115,119,116]).data.toList=[117,100,110,101,115,119,116]from rfl,aov]at c;have d:(a8 [b].toArray).size=1:=rfl
   go_enter func252,ntmps252
   go_wp2_with (go_at_call 277;refine c.mono ?_;rintro e i ⟨rfl,rfl⟩)
   go_ret
   exact⟨rfl,rfl⟩
 ·have f:=ag3 a
  have d:(a8 l.toArray).size=l.length:=mq l;have g:¬((l.length:Z)=1):=by omega
  rw[f]
  go_enter func252,ntmps252
  go_wp2
  go_ret
  exact⟨rfl,rfl⟩
def amj(l:E ψ)(k:O):Lib.repeatL l k=rep k l:=by
 induction k with
 |zero=>rfl
 |succ k a=>rw[Lib.repeatL,a];unfold rep;rw[List.replicate_succ,zy]
def acP(l:E ψ)(k:O)(w:υ)(a:k<=1000)(b:l.length<=1000000):aH θ 253 #[.string ⟨l.toArray⟩,ι k] w (f_ w (.string ⟨(rep k l).toArray⟩)):=by refine(Any.strings_Repeat aif aeT ⟨l.toArray⟩ k w (by omega) (by rw[mq];exact cD (pD b a) (by decide))).mono ?_;rintro e d ⟨rfl,c⟩;rw[show(a8 l.toArray).data.toList=l from rfl,amj];exact⟨rfl,(Below.fr c).mono λ_ _ h=>h.elim⟩
def EJ{b:O}{l:E ψ}{w:υ}(h:eu b l w):aH θ 254 #[.pointer (γ ⟨b,0,ζ⟩)] w λe w'=>e=.returned (ι l.length)/\w'=w:=by refine(Any.Builder_Len_f aib b b _ w h).mono ?_;rintro e w' ⟨rfl,rfl⟩;rw[Lib.byteCells_length];exact⟨rfl,rfl⟩
def iw(R G:O)(ws:E (E ψ))(k:O)(w:υ):Prop:=w.heap[R]?=γ (.cells #[.slice (γ ⟨G,0,ζ⟩) ws.length ws.length,ι k] 224 (0,0))/\w.heap[G]?=γ (om ws)
def iw.ne{R G k:O}{ws:E (E ψ)}{w:υ}(h:iw R G ws k w):R≠G:=λe=>by have a:=h.1;rw[e,h.2]at a;simp only[om,ar,qK]at a;exact aO a.2.1 (by decide)
def iw.fr{R G k:O}{ws:E (E ψ)}{w w':υ}(h:iw R G ws k w)(f:Fr (aq w) w w'):iw R G ws k w':=by have a:=(cm.1 h.1).1;have b:=(cm.1 h.2).1;exact⟨(f.block R a (fY.2 a)).trans h.1,(f.block G b (fY.2 b)).trans h.2⟩
def iw.EE{R G k B:O}{ws:E (E ψ)}{w w':υ}(h:iw R G ws k w)(a:R<B)(b:G<B)(f:jV B w w'):iw R G ws k w':=
 ⟨(f.1.block R a).trans h.1,(f.1.block G b).trans h.2⟩
def iw.set{R G k:O}{ws:E (E ψ)}{w:υ}(h:iw R G ws k w)(j:O):iw R G ws j (w.setCell ⟨R,1,ζ⟩ (ι j)):=by have a:=h.ne;refine⟨by simp[l9,zn,h.1],?_⟩;rw[kj _ _ _ _ (show G≠R from a.symm)];exact h.2
def iw.cells{R G k:O}{ws:E (E ψ)}{w:υ}(h:iw R G ws k w):w.cell? ⟨R,0,ζ⟩=γ (.slice (γ ⟨G,0,ζ⟩) ws.length ws.length)/\w.cell? ⟨R,1,ζ⟩=γ (ι k)/\w.frozen? ⟨R,1,ζ⟩=η:=by
 refine⟨?_,?_,?_⟩
 ·rw[gR w R 0 _ _ (0,0) h.1];rfl
 ·rw[gR w R 1 _ _ (0,0) h.1];rfl
 ·exact se w R 1 _ _ h.1
def eu.Nf{b R:O}{l:E ψ}{w w':υ}(h:eu b l w)(d:∃c i,w.heap[R]?=γ (.cells c 224 i))(f:Fr (cj w R) w w'):eu b l w':=by
 refine h.kept λk c i a=>f.block k ?_ λe=>?_
 ·rcases a with a|a<;>exact(cm.1 a).1
 ·have g:k<w.heap.size:=by rcases a with a|a<;>exact(cm.1 a).1
  rcases e with e|rfl
  ·exact aO e (fY.2 g)
  ·obtain⟨m,j,d⟩:=d
   rcases a with a|a
   ·rw[d]at a
    simp only[ar,qK]at a;exact aO a.2.1 (by decide)
   ·rw[d]at a
    simp only[ar,qK]at a;exact aO a.2.1 (by decide)
def eu.vk{b:O}{l:E ψ}{w w':υ}(h:eu b l w)(f:Fr (aq w) w w'):eu b l w':=h.kept λk c d a=>f.block k (by rcases a with a|a<;>exact(cm.1 a).1) (fY.2 (by rcases a with a|a<;>exact(cm.1 a).1))
def sC(R:O)(w:υ):O:=match w.cell? ⟨R,1,ζ⟩with|some v=>(intOf v).toNat|none=>0
def oQ(R G:O)(ws:E (E ψ))(x:χ (E ψ×E (E ψ)))(w:υ)(e:jt)(w':υ):Prop:=
 Fr (cj w R) w w'/\match x with
  |none=>e=qX
  |some x=>e=.returned (.string ⟨x.1.toArray⟩)/\iw R G ws (ws.length-x.2.length) w'
structure uq (R G B:O) (ws:E (E ψ)) (br:κ) (k:O) (w:υ) (q:O) (out:E ψ) (wr:υ):Prop where
 le:k<=q/\q<=ws.length
 rd:iw R G ws q wr
 bu:eu B out wr
 eq:fl br (ws.drop k) []=fl br (ws.drop q) out
 em:out.isEmpty=ai q k
 sz:out.length<=500
 fr:Fr (cj w R) w wr
def iw.sC{R G k:O}{ws:E (E ψ)}{w:υ}(h:iw R G ws k w):sC R w=k:=by unfold Go.Proofs.YtlmbkhplhkdhlaaGreatDoor.sC;rw[h.cells.2.1];simp[intOf]
def jV.xw{B R:O}{a w w':υ}(h:jV B w w')(b:a.heap.size<=B)(f:Fr (cj a R) a w):Fr (cj a R) a w':=
 f.trans ⟨h.1.os,h.1.tape,h.1.output,h.1.size,λk _ c=>h.1.block k (eE (fY.1 λe=>c (.inl e)) b)⟩
def uq.next{R G B:O}{ws:E (E ψ)}{br:κ}{k q q':O}{w wr W:υ}{out out':E ψ}(a:uq R G B ws br k w q out wr)(b:q<q')(c:q'<=ws.length)(rd:iw R G ws q' W)(d:eu B out' W)(eq:fl br (ws.drop q) out=fl br (ws.drop q') out')(f:out'≠ [])(g:out'.length<=500)(h:Fr (cj w R) w W):(∃(q:O)(out:E ψ),uq R G B ws br k w q out W)/\ws.length-Go.Proofs.YtlmbkhplhkdhlaaGreatDoor.sC R W<ws.length-Go.Proofs.YtlmbkhplhkdhlaaGreatDoor.sC R wr:=by
 refine⟨⟨q',out',⟨cD a.le.1 (HM b),c⟩,rd,d,a.eq.trans eq,?_,g,h⟩,?_⟩
 ·have:=a.le.1
  rw[show ai q' k=η from by cases e:ai q' k with|false=>rfl|true=>have:=ci e;omega];cases out' with
  |nil=>exact aO rfl f
  |cons=>rfl
 ·rw[rd.sC,a.rd.sC]
  omega
def uq.step{R G B:O}{ws:E (E ψ)}{br:κ}{k q:O}{w wr W:υ}{out:E ψ}(b:uq R G B ws br k w q out wr)(c:W=(wr.setCell ⟨R,1,ζ⟩ (ι ((q:Z)+1))).drew.drew):iw R G ws (q+1) W/\eu B out W/\Fr (cj w R) w W:=by
 have d:(q:Z)+1=((q+1:O):Z):=by omega
 rw[d]at c;have g:Fr (cj wr R) wr (wr.setCell ⟨R,1,ζ⟩ (ι ((q+1:O):Z))):=⟨rfl,rfl,rfl,by simp[l9],λk _ i=>kj _ _ _ _ (λe=>i (.inr e))⟩;have j:=b.rd.set (q+1);have l:=b.bu.Nf ⟨_,_,b.rd.1⟩ g;have a:Fr (cj w R) wr (wr.setCell ⟨R,1,ζ⟩ (ι ((q+1:O):Z))):=g.mono λ_ _ h=>ua h (λh=>kr (cD b.fr.size h)) HT
 have f:Fr (cj w R) wr W:=c▸⟨a.os,a.tape,a.output,a.size,a.block⟩;exact⟨c▸j,c▸l,b.fr.trans f⟩
def acV{R G:O}{ws:E (E ψ)}(N:∀l∈ws,l.length<=1000)(hn:ws.length<=1000):∀(m:O)(br:κ)(k:O)(w:υ),ws.length-k<m->k<=ws.length->iw R G ws k w->aH θ 223 #[.pointer (γ ⟨R,0,ζ⟩),.bool br] w (oQ R G ws (fl br (ws.drop k) []) w):=by
 intro m;induction m with
 |zero=>intro br k w h;omega
 |succ m C=>
  intro br k w hm hk y;have mixed:=mixed;have hRlt:=(cm.1 y.1).1;have hGlt:=(cm.1 y.2).1;obtain⟨c0,c1,z1⟩:=y.cells;obtain⟨B,D⟩:∃B,B=w.heap.size:=⟨_,rfl⟩;have hI:uq R G B ws br k w k [] (w.alloc (.cells #[.pointer ζ,.slice ζ 0 0] 34)):=by
   have f:=eR (fk w (.cells #[.pointer ζ,.slice ζ 0 0] 34) ζ) (M:=aq w) λk e=>by cases e
   exact⟨⟨aR _,hk⟩,y.fr f,D▸eu.new w,rfl,by simp,eF _,f.oh⟩
  have c1a:(w.alloc (.cells #[.pointer ζ,.slice ζ 0 0] 34)).cell? ⟨R,1,ζ⟩=γ (ι k):=hI.rd.cells.2.1
  go_enter func223,ntmps223
  go_wp2
  go_loopw [] (λwr=>∃(q:O)(out:E ψ),uq R G B ws br k w q out wr) (λwr=>ws.length-sC R wr)
  case atStart=>exact⟨k,[],hI⟩
  case round=>
   obtain⟨q,out,o⟩:=hrel;obtain⟨d0,d1,dz⟩:=o.rd.cells;by_cases hq:q<ws.length
   ·have hqi:(q:Z)<ws.length:=by omega
    have hni:(ws.length:Z)<=1000:=by omega
    have dG:=Xc o.rd.2 q hq;have dGc:wr.drew.cell? ⟨G,q,ζ⟩=γ (.string ⟨ws[q].toArray⟩):=dG;have dGc2:wr.drew.drew.cell? ⟨G,q,ζ⟩=γ (.string ⟨ws[q].toArray⟩):=dG;have e0:wr.drew.cell? ⟨R,0,ζ⟩=γ (.slice (γ ⟨G,0,ζ⟩) ws.length ws.length):=d0;have e1:wr.drew.cell? ⟨R,1,ζ⟩=γ (ι q):=d1;have g0:wr.drew.drew.cell? ⟨R,0,ζ⟩=γ (.slice (γ ⟨G,0,ζ⟩) ws.length ws.length):=d0;have g1:wr.drew.drew.cell? ⟨R,1,ζ⟩=γ (ι q):=d1;have gz:wr.drew.drew.frozen? ⟨R,1,ζ⟩=η:=dz;have s:ws.drop q=ws[q]::ws.drop (q+1):=DA hq;have hl1:ws[q].length<=1000:=N _ (ko hq);generalize ws[q]=l at*
    go_wp2_with fail
    go_region_held3 (λI=>I.cell? ⟨R,0,ζ⟩=γ (.slice (γ ⟨G,0,ζ⟩) ws.length ws.length)/\I.cell? ⟨R,1,ζ⟩=γ (ι q)/\I.cell? ⟨G,q,ζ⟩=γ (.string ⟨l.toArray⟩)) (exact⟨d0,d1,dG⟩) (fail)
    go_wp2_with fail
    go_region_held3 (λI=>I.cell? ⟨R,0,ζ⟩=γ (.slice (γ ⟨G,0,ζ⟩) ws.length ws.length)/\I.cell? ⟨R,1,ζ⟩=γ (ι q)/\I.cell? ⟨G,q,ζ⟩=γ (.string ⟨l.toArray⟩)) (exact⟨d0,d1,dG⟩) (fail)
    go_wp2_with fail
    obtain⟨W,hW⟩:∃W,W=(wr.setCell ⟨R,1,ζ⟩ (ι ((q:Z)+1))).drew.drew:=⟨_,rfl⟩;obtain⟨rW,bW,H⟩:=o.step hW;rw[<-hW];clear hW dG dGc dGc2 e0 e1 g0 g1 gz d0 d1 dz;have d:=acx l W (by omega);have g:∀j,fl br (ws.drop q) out=ζ->Fr (cj w R) w j->oQ R G ws (fl br (ws.drop k) []) w qX j:=λj h f=>by rw[o.eq,h];exact⟨f,rfl⟩
    have hsz:=o.sz;cases hs:gU l with
    |true=>
     rw[hs]at d;by_cases hle:out.length+l.length<=500
     ·have P:(out.length:Z)+l.length<=500:=by omega
      have Q:(out++l).length<=500:=by rw[cv];omega
      have i:∀j,eu B (out++l) j->jV B W j->_:=λj b2 t=>o.next (q':=q+1) (out':=out++l) (by omega) (by omega) (rW.EE (by omega) (by omega) t) b2 (by rw[s,Sv hs,show Θ (out.length+l.length) 500=ε from by rw[aT];exact hle];rfl) (λe=>by have:=wz b_ e;simp at this;rw[this.2]at hs;cases hs) Q (t.xw (by omega) H)
      have z:=xb l bW (by omega);refine d.mono ?_;rintro e S ⟨rfl,rfl⟩;clear d o C;subst D
      go_wp2_with (first|(go_at_call 9;refine z.mono ?_;rintro e w2 ⟨v,rfl,b2,t⟩)|(go_at_call 254;refine(EJ ‹_›).mono ?_;rintro e w3 ⟨rfl,rfl⟩)|(go_at_call 222;refine(te _).mono ?_;rintro e w4 ⟨rfl,rfl⟩))
      exact i _ b2 t
     ·have P:¬((out.length:Z)+l.length<=500):=by omega
      have i:∀j,jV B W j->_:=λj t=>g j (by rw[s,Sv hs,show Θ (out.length+l.length) 500=η from by cases e:Θ (out.length+l.length) 500 with|false=>rfl|true=>rw[aT]at e;omega];rfl) (t.xw (by omega) H)
      have z:=xb l bW (by omega);refine d.mono ?_;rintro e S ⟨rfl,rfl⟩;clear d o C g;subst D
      go_wp2_with (first|(go_at_call 9;refine z.mono ?_;rintro e w2 ⟨v,rfl,b2,t⟩)|(go_at_call 254;refine(EJ ‹_›).mono ?_;rintro e w3 ⟨rfl,rfl⟩))
      rw[eJ (by omega)];refine(pd _).mono ?_;rintro e w4 ⟨rfl,rfl⟩;exact⟨rfl,i _ t⟩
    |false=>
     rw[hs]at d;by_cases h93:l=[93]
     ·subst h93
      have A:(q=k)\/k<q:=by have:=o.le.1;omega
      have T:=o.em;obtain⟨m0,m1,mz⟩:=rW.cells;cases br with
      |false=>
       have i:oQ R G ws (fl η (ws.drop k) []) w qX W:=g W (by rw[s,KD,ly];rfl) H;refine d.mono ?_;rintro e S ⟨rfl,rfl⟩;clear d o C g T A;subst D
       go_wp2_with fail
       refine(pd _).mono ?_;rintro e w4 ⟨rfl,rfl⟩;exact⟨rfl,i⟩
      |true=>
       rcases A with A|A
       ·have hq3:¬((k:Z)<q):=by omega
        have i:oQ R G ws (fl ε (ws.drop k) []) w qX W:=g W (by rw[s,KD,T,A,show ai k k=ε from l5 k,Bool.not_true,gP];rfl) H;refine d.mono ?_;rintro e S ⟨rfl,rfl⟩;clear d o C g T A;subst D
        go_wp2_with fail
        rw[eJ (by omega)];refine(pd _).mono ?_;rintro e w4 ⟨rfl,rfl⟩;exact⟨rfl,i⟩
       ·have hq3:(k:Z)<q:=by omega
        have i:∀j,jV B W j->oQ R G ws (fl ε (ws.drop k) []) w (.returned (.string ⟨out.toArray⟩)) j:=λj t=>by rw[o.eq,s,KD,T,show ai q k=η from by cases e:ai q k with|false=>rfl|true=>have:=ci e;omega];refine⟨t.xw (by omega) H,rfl,?_⟩;have:=rW.EE (by omega) (by omega) t;rw[oF,show ws.length-(ws.length-(q+1))=q+1 by omega];exact this
        have U:=JM bW;refine d.mono ?_;rintro e S ⟨rfl,rfl⟩;clear d o C g T A;subst D
        go_wp2_with (first|(go_at_call 222;refine(te _).mono ?_;rintro e w4 ⟨rfl,rfl⟩)|(go_at_call 12;refine U.mono ?_;rintro e w5 ⟨rfl,f5⟩))
        go_ret
        exact i _ f5
     ·have h93b:(l==[93])=η:=dT.2 h93
      by_cases hlp:bT l=0
      ·have i:oQ R G ws (fl br (ws.drop k) []) w qX W:=g W (by rw[s,afq hs h93 hlp]) H
       by_cases h2:l.length=2
       ·match l,h2 with
        |[a,b],_=>
         have hz:(a8 [a,b].toArray).size=2:=rfl;have hz3:(a8 #[a,b]).size=2:=rfl;have hx0:∀h,(a8 #[a,b])[0]'h=a:=λ_=>rfl
         have hx1:∀h,(a8 #[a,b])[1]'h=b:=λ_=>rfl
         clear N hn hm hk s hqi hni y c0 c1 z1 c1a;rcases aiv hlp with ha|⟨rfl,hb|⟨hb,hb2⟩⟩
         ·have ha2:¬((a.toNat:Z)=114):=by omega
          refine d.mono ?_;rintro e S ⟨rfl,rfl⟩;clear d o C g;subst D
          go_wp2_with fail
          refine(pd _).mono ?_;rintro e w4 ⟨rfl,rfl⟩;exact⟨rfl,i⟩
         ·have hb3:¬((49:Z)<=b.toNat):=by omega
          refine d.mono ?_;rintro e S ⟨rfl,rfl⟩;clear d o C g;subst D
          go_wp2_with fail
          refine(pd _).mono ?_;rintro e w4 ⟨rfl,rfl⟩;exact⟨rfl,i⟩
         ·have hb3:(49:Z)<=b.toNat:=by omega
          have hb4:¬((b.toNat:Z)<=57):=by omega
          refine d.mono ?_;rintro e S ⟨rfl,rfl⟩;clear d o C g;subst D
          go_wp2_with fail
          rw[eJ (by omega)];refine(pd _).mono ?_;rintro e w4 ⟨rfl,rfl⟩;exact⟨rfl,i⟩
       ·have hz:(a8 l.toArray).size=l.length:=mq l
        have hz2:¬((l.length:Z)=2):=by omega
        refine d.mono ?_;rintro e S ⟨rfl,rfl⟩;clear d o C g;subst D
        go_wp2_with fail
        refine(pd _).mono ?_;rintro e w4 ⟨rfl,rfl⟩;exact⟨rfl,i⟩
      ·obtain⟨b,rfl,hb1,hb2,hlv⟩:=aiu hlp
       have hz3:(a8 #[114,b]).size=2:=rfl;have hx0:∀h,(a8 #[114,b])[0]'h=114:=λ_=>rfl
       have hx1:∀h,(a8 #[114,b])[1]'h=b:=λ_=>rfl
       have hb3:(49:Z)<=b.toNat:=by omega
       have hb4:(b.toNat:Z)<=57:=by omega
       have hkq:=o.le.1;have X:=C ε (q+1) W (by omega) (by omega) rW;have n:=afo (br:=br) (r:=ws.drop (q+1)) (out:=out) hs h93 hlp;cases p:fl ε (ws.drop (q+1)) []with
       |none=>
        rw[p]at X n;have i:∀j,Fr (cj W R) W j->oQ R G ws (fl br (ws.drop k) []) w qX j:=λj f=>g j (by rw[s,n]) (H.trans (f.mono λ_ _ h=>ua h (λh=>kr (cD H.size h)) HT))
        refine d.mono ?_;rintro e S ⟨rfl,rfl⟩;clear d o C g n p;subst D
        go_wp2_with (first|(go_at_call 222;refine(te _).mono ?_;rintro e w4 ⟨rfl,rfl⟩)|(go_at_call 223;refine X.mono ?_;rintro e w5 ⟨f5,he5⟩;obtain rfl:=he5))
        exact⟨rfl,i _ f5⟩
       |some x=>
        obtain⟨c,r'⟩:=x;have hbz:=Sw p;have hrl:=(Su p).1;have hne:=((Su p).2 rfl).1;rw[oF]at hrl;rw[p]at X n;simp only at n;have hdq:r'=ws.drop (ws.length-r'.length):=atU.1 ((afr p).trans (List.drop_suffix _ _));have hk9:=Mf [114,b];rw[hlv]at n hk9;have hu:oC.wrap ((b.toNat:Z) -48)=((b.toNat-48:O):Z):=by rw[Dt];omega
        have hu2:a7.wrap (((b.toNat-48:O):Z))=((b.toNat-48:O):Z):=bR (by omega);have hbz2:(c.length:Z)<=500:=by omega
        have U:(a8 c.toArray).size=c.length:=mq c;have hrl2:=yJ (b.toNat-48) c;have hkb:(b.toNat-48)*c.length<=9*500:=pD (by omega) hbz;have hrn:rep (b.toNat-48) c≠ []:=WL (by omega) hne;generalize b.toNat-48=L at*;have hrp:=λj (f:Fr (cj W R) W j)=>acP c L j (by omega) (by omega)
        by_cases hle:out.length+(rep L c).length<=500
        ·have P:(out.length:Z)+(rep L c).length<=500:=by omega
         have Q:(out++rep L c).length<=500:=by rw[cv];omega
         have i:∀j W3 W4,Fr (cj W R) W j->iw R G ws (ws.length-r'.length) j->Fr (aq j) j W3->eu B (out++rep L c) W4->jV B W3 W4->_:=λj W3 W4 t r2 f3 b4 f4=>o.next (q':=ws.length-r'.length) (out':=out++rep L c) (by omega) (by omega) ((r2.fr f3).EE (by omega) (by omega) f4) b4 (by rw[s,n,show Θ (out.length+L*c.length) 500=ε from by rw[aT];omega,aZ,<-hdq]) (λe=>hrn (List.append_eq_nil_iff.1 e).2) Q (f4.xw (by omega) ((H.trans (t.mono λ_ _ h=>ua h (λh=>kr (cD H.size h)) HT)).trans (f3.mono λ_ _ h=>kr (cD H.size (cD t.size h)))))
         have z:=λj W3 (t:Fr (cj W R) W j)(f3:Fr (aq j) j W3)=>xb (rep L c) ((bW.Nf ⟨_,_,rW.1⟩ t).vk f3) (by omega)
         refine d.mono ?_;rintro e S ⟨rfl,rfl⟩;clear d o C g n p N hn hm hk s y c0 c1 z1 c1a hkq hb1 hb2 hlv hk9 hrl hrl2 hkb hrn hdq hne hbz;subst D
         go_wp2_with (first|(go_at_call 222;refine(te _).mono ?_;rintro e w4 ⟨rfl,rfl⟩)|(go_at_call 223;refine X.mono ?_;rintro e w5 ⟨f5,he5,r5⟩;obtain rfl:=he5)|(go_at_call 253;refine(hrp _ ‹_›).mono ?_;rintro e w6 ⟨rfl,f6⟩)|(go_at_call 9;refine(z _ _ ‹_› ‹_›).mono ?_;rintro e w7 ⟨v,rfl,b7,f7⟩)|(go_at_call 254;refine(EJ ‹_›).mono ?_;rintro e w8 ⟨rfl,rfl⟩))
         exact i _ _ _ f5 r5 f6 b7 f7
        ·have P:¬((out.length:Z)+(rep L c).length<=500):=by omega
         have i:∀j W3 W4,Fr (cj W R) W j->Fr (aq j) j W3->jV B W3 W4->oQ R G ws (fl br (ws.drop k) []) w qX W4:=λj W3 W4 t f3 f4=>g W4 (by rw[s,n,show Θ (out.length+L*c.length) 500=η from by cases e:Θ (out.length+L*c.length) 500 with|false=>rfl|true=>rw[aT]at e;omega];rfl) (f4.xw (by omega) ((H.trans (t.mono λ_ _ h=>ua h (λh=>kr (cD H.size h)) HT)).trans (f3.mono λ_ _ h=>kr (cD H.size (cD t.size h)))))
         have z:=λj W3 (t:Fr (cj W R) W j)(f3:Fr (aq j) j W3)=>xb (rep L c) ((bW.Nf ⟨_,_,rW.1⟩ t).vk f3) (by omega)
         refine d.mono ?_;rintro e S ⟨rfl,rfl⟩;clear d o C g n p N hn hm hk s y c0 c1 z1 c1a hkq hb1 hb2 hlv hk9 hrl hrl2 hkb hrn hdq hne hbz;subst D
         go_wp2_with (first|(go_at_call 222;refine(te _).mono ?_;rintro e w4 ⟨rfl,rfl⟩)|(go_at_call 223;refine X.mono ?_;rintro e w5 ⟨f5,he5,r5⟩;obtain rfl:=he5)|(go_at_call 253;refine(hrp _ ‹_›).mono ?_;rintro e w6 ⟨rfl,f6⟩)|(go_at_call 9;refine(z _ _ ‹_› ‹_›).mono ?_;rintro e w7 ⟨v,rfl,b7,f7⟩)|(go_at_call 254;refine(EJ ‹_›).mono ?_;rintro e w8 ⟨rfl,rfl⟩))
         rw[eJ (by omega)];refine(pd _).mono ?_;rintro e w4 ⟨rfl,rfl⟩;exact⟨rfl,i _ _ _ f5 f6 f7⟩
   ·have hq2:q=ws.length:=by have:=o.le.2;omega
    have hni:(ws.length:Z)<=1000:=by omega
    have e0:wr.drew.cell? ⟨R,0,ζ⟩=γ (.slice (γ ⟨G,0,ζ⟩) ws.length ws.length):=d0;have e1:wr.drew.cell? ⟨R,1,ζ⟩=γ (ι ws.length):=hq2▸d1;have d1':wr.cell? ⟨R,1,ζ⟩=γ (ι ws.length):=hq2▸d1;have p:fl br (ws.drop k) []=bif br then ζ else γ (out,[]):=by rw[o.eq,hq2,List.drop_length,afp]
    have hrd2:=o.rd;rw[hq2]at hrd2;have U:=JM (w:=wr.drew) (b:=B) (l:=out) (o.bu.vk (fd wr));have u:=o.fr;have i:∀j,jV B wr.drew j->br=η->oQ R G ws (fl br (ws.drop k) []) w (.returned (.string ⟨out.toArray⟩)) j:=λj t hbr=>by rw[p,hbr];have f0:Fr (cj w R) w wr.drew:=⟨u.os,u.tape,u.output,u.size,u.block⟩;have r0:iw R G ws ws.length wr.drew:=hrd2;refine⟨t.xw (by omega) f0,rfl,?_⟩;exact r0.EE (by omega) (by omega) t
    have hnn:br=ε->oQ R G ws (fl br (ws.drop k) []) w qX wr.drew:=λhbr=>by rw[p,hbr];exact⟨⟨u.os,u.tape,u.output,u.size,u.block⟩,rfl⟩
    clear o p hrd2 u C N hn hm hk y c0 c1 z1 c1a d1 dz hq hI;subst D;cases br with
    |true=>
     have hn2:=hnn rfl;clear hnn i U
     go_wp2_with fail
     go_region_held3 (λI=>I.cell? ⟨R,0,ζ⟩=γ (.slice (γ ⟨G,0,ζ⟩) ws.length ws.length)/\I.cell? ⟨R,1,ζ⟩=γ (ι ws.length)) (exact⟨d0,d1'⟩) (fail)
     go_wp2_with fail
     refine(pd _).mono ?_;rintro e w4 ⟨rfl,rfl⟩;exact⟨rfl,hn2⟩
    |false=>
     have hn2:=λj h=>i j h rfl
     clear hnn i
     go_wp2_with fail
     go_region_held3 (λI=>I.cell? ⟨R,0,ζ⟩=γ (.slice (γ ⟨G,0,ζ⟩) ws.length ws.length)/\I.cell? ⟨R,1,ζ⟩=γ (ι ws.length)) (exact⟨d0,d1'⟩) (fail)
     go_wp2_with (first|(go_at_call 222;refine(te _).mono ?_;rintro e w4 ⟨rfl,rfl⟩)|(go_at_call 12;refine U.mono ?_;rintro e w5 ⟨rfl,f5⟩))
     go_ret
     exact hn2 _ f5
def WM(tmps:aU τ)(w:υ):(results f221 tmps).run θ w=.ok (.tuple #[]) w:=by simp[results]
def acZ(p q:c9)(w:υ):CallsD θ 221 #[.pointer (γ p),.pointer (γ q)] .returning w λe c w'=>e=.returned (.tuple #[])/\c=.returning/\w'=w:=by
 have mixed:=mixed;refine H9 func221 rfl λa d b=>?_
 apply wpS_seq;apply Il;simp[wpOpsS,go_sem,Ie,b,ntmps221,Hv];apply Ik
 go_wp2
 exact⟨rfl,.returning,by cases a;simp at b;subst b;rfl,.tuple #[],WM _ _,rfl,rfl,rfl⟩
def apr(w:υ):(zt Gv 20 221 ε).run θ w=.ok (.tuple #[.agg #[],.bool ε]) w:=nj (by kernel_rfl) w
def JQ(a b:O)(x y:τ)(c:E PanicEntry)(w:υ)(d:a<b)(i:w.cell? ⟨a,0,ζ⟩=γ x)(j:w.frozen? ⟨a,0,ζ⟩=η)(k:w.cell? ⟨b,0,ζ⟩=γ y)(l:w.frozen? ⟨b,0,ζ⟩=η)(f:b<w.heap.size):CallsD θ 221 #[.pointer (γ ⟨a,0,ζ⟩),.pointer (γ ⟨b,0,ζ⟩)] (.panicking ({v:=Gv,recovered:=η}::c)) w λe m w'=>e=.returned (.tuple #[])/\m=.panicking ({v:=Gv,recovered:=ε}::c)/\∃o,w'=((w.alloc o).setCell ⟨a,0,ζ⟩ (.string ⟨#[]⟩)).setCell ⟨b,0,ζ⟩ (.bool η):=by
 have mixed:=mixed;have g:a<w.heap.size:=by omega
 have n:∀o,(w.alloc o).cell? ⟨a,0,ζ⟩=γ x:=λo=>(nL (gj w o _ g)).trans i
 have p:∀o,(w.alloc o).frozen? ⟨a,0,ζ⟩=η:=λo=>(DZ (gj w o _ g)).trans j
 have q:(⟨b,0,ζ⟩:c9).block≠ (⟨a,0,ζ⟩:c9).block:=HN d;have r:∀o v,((w.alloc o).setCell ⟨a,0,ζ⟩ v).cell? ⟨b,0,ζ⟩=γ y:=λo v=>(nL (a:=⟨b,0,ζ⟩) (kj _ _ _ _ (HN d))).trans ((nL (gj w o _ f)).trans k)
 have s:∀o v,((w.alloc o).setCell ⟨a,0,ζ⟩ v).frozen? ⟨b,0,ζ⟩=η:=λo v=>(DZ (a:=⟨b,0,ζ⟩) (kj _ _ _ _ (HN d))).trans ((DZ (gj w o _ f)).trans l)
 have u:=apr;refine H9 func221 rfl λh z t=>?_
 apply wpS_seq;apply Il;simp[wpOpsS,go_sem,Ie,t,ntmps221,Hv];apply Ik
 go_wp2
 refine⟨rfl,_,rfl,.tuple #[],WM _ _,rfl,rfl,_,rfl⟩
def i7(s:E ψ):χ (E ψ):=if s.length<=400 then(match fl η (cW 32 s) []with|some x=>γ x.1|none=>ζ)else ζ
def N1(x:χ (E ψ)):τ:=.tuple #[.string ⟨(x.getD []).toArray⟩,.bool x.isSome]
def aoz:i7 []=ζ:=by decide
structure lE (a b:O) (x y:τ) (w:υ):Prop where
 h1:w.heap[a]?=γ (.cells #[x] 9 (0,0))
 h2:w.heap[b]?=γ (.cells #[y] 4 (0,0))
def lE.fr{a b:O}{x y:τ}{w w':υ}(h:lE a b x y w)(f:∀k,k=a\/k=b->w'.heap[k]?=w.heap[k]?):lE a b x y w':=⟨(f a (.inl rfl)).trans h.h1,(f b (.inr rfl)).trans h.h2⟩
def lE.facts{a b:O}{x y:τ}{w:υ}(h:lE a b x y w):w.cell? ⟨a,0,ζ⟩=γ x/\w.frozen? ⟨a,0,ζ⟩=η/\w.cell? ⟨b,0,ζ⟩=γ y/\w.frozen? ⟨b,0,ζ⟩=η/\b<w.heap.size:=
 ⟨by rw[gR w a 0 #[x] _ (0,0) h.h1];rfl,se w a 0 #[x] _ h.h1,by rw[gR w b 0 #[y] _ (0,0) h.h2];rfl,se w b 0 #[y] _ h.h2,(cm.1 h.h2).1⟩
def lE.vk{a b:O}{x y:τ}{w w':υ}(h:lE a b x y w)(f:Fr (aq w) w w'):lE a b x y w':=
 ⟨(f.block a (cm.1 h.h1).1 (fY.2 (cm.1 h.h1).1)).trans h.h1,(f.block b (cm.1 h.h2).1 (fY.2 (cm.1 h.h2).1)).trans h.h2⟩
def lE.put{a b:O}{x y u v:τ}{w:υ}(h:lE a b x y w)(c:a<b):lE a b u v ((w.setCell ⟨a,0,ζ⟩ u).setCell ⟨b,0,ζ⟩ v):=by
 refine⟨?_,?_⟩
 ·rw[kj _ _ _ _ (show a≠b by omega)]
  simp[l9,zn,h.h1]
 ·have:=(kj w ⟨a,0,ζ⟩ u b (show b≠a by omega)).trans h.h2
  generalize w.setCell ⟨a,0,ζ⟩ u=W at*;simp[l9,zn,this]
def SH{a b:O}{u v:τ}{w c:υ}(f:Fr (aq c) c w)(e:c.heap.size<=a)(g:c.heap.size<=b):Fr (aq c) c ((w.setCell ⟨a,0,ζ⟩ u).setCell ⟨b,0,ζ⟩ v):=by refine f.trans ⟨rfl,rfl,rfl,by simp[l9],λk _ d=>?_⟩;have d:k<c.heap.size:=fY.1 d;rw[kj _ _ _ _ (show k≠b by omega),kj _ _ _ _ (show k≠a by omega)]
def JG{a b:O}{x y:τ}{w c:υ}(h:lE a b x y w)(d:a<b)(f:Fr (aq c) c w)(i:c.heap.size<=a)(o:Obj):(((w.alloc o).setCell ⟨a,0,ζ⟩ (.string ⟨#[]⟩)).setCell ⟨b,0,ζ⟩ (.bool η)).cell? ⟨a,0,ζ⟩=γ (.string ⟨#[]⟩)/\(((w.alloc o).setCell ⟨a,0,ζ⟩ (.string ⟨#[]⟩)).setCell ⟨b,0,ζ⟩ (.bool η)).cell? ⟨b,0,ζ⟩=γ (.bool η)/\Fr (aq c) c (((w.alloc o).setCell ⟨a,0,ζ⟩ (.string ⟨#[]⟩)).setCell ⟨b,0,ζ⟩ (.bool η)):=by
 have g:=eR (fk w o ζ) (M:=aq w) λk e=>by cases e
 have j:=(h.vk g).put d (u:=.string ⟨#[]⟩) (v:=.bool η);obtain⟨l,_,m,_⟩:=j.facts;exact⟨l,m,SH (dh f g) i (by omega)⟩
def acR(s:ρ){w:υ}(ht:aY (aq w) w):aH θ 157 #[.string s] w (f_ w (N1 (i7 s.data.toList))):=by
 have mixed:=mixed;have hmf:∀(fn:Fn)(first L:aU τ)(w:υ),(OV fn first L).run θ w=.ok (.func fn first L) w:=λ_ _ _ _=>rfl
 have hsl:s.data.toList.length=s.size:=by rw[lx];rfl
 obtain⟨i,t⟩:∃i,(w.alloc (.cells #[.string ⟨#[]⟩] 9)).alloc (.cells #[.bool η] 4)=i:=⟨_,rfl⟩;have N:Fr (aq w) w i:=t▸(dh (eR (fk w _ ζ) λk e=>by cases e) (eR (fk _ _ ζ) λk e=>by cases e));have y:lE w.heap.size (w.heap.size+1) (.string ⟨#[]⟩) (.bool η) i:=by
  refine⟨?_,?_⟩
  ·rw[<-t,gj _ _ _ (by simp)]
   exact l8 _ _
  ·rw[<-t]
   have:=l8 (w.alloc (.cells #[.string ⟨#[]⟩] 9)) (.cells #[.bool η] 4);simpa using this
 by_cases hz:s.size<=400
 ·have hz2:(s.size:Z)<=400:=by omega
  by_cases X:s.data.toList=[]
  ·have hem:s.toList.isEmpty=ε:=by rw[qG,X];rfl
   rw[X,aoz];clear X
   go_enter_defers P0,P_
   go_wp2_with fail
   refine(pd _).mono ?_;rintro e c ⟨rfl,rfl⟩;obtain⟨D,G,z,A,H⟩:=y.facts;refine wC (f:=221) (args:= #[.pointer (γ ⟨w.heap.size,0,ζ⟩),.pointer (γ ⟨w.heap.size+1,0,ζ⟩)]) (by simp) (by simp[go_sem]) ?_;refine(JQ _ _ _ _ [] _ (ft _) D G z A H).mono ?_;rintro e u' B ⟨rfl,rfl,o,rfl⟩;obtain⟨P,Q,R⟩:=JG y (ft _) N (aR _) o;simp[wa,wD,results,Qd,go_sem,P,Q];exact⟨rfl,R⟩
  ·have hem:s.toList.isEmpty=η:=by
    rw[qG];cases h:s.data.toList with
    |nil=>exact aO h X
    |cons=>rfl
   obtain⟨mx,hm⟩:=ze (ht.fh N);have m:=OF {s5 with} s5.i9 s ⟨#[32]⟩ mx i (by omega) hm (by decide);have hl:=tz s ⟨#[32]⟩ (by decide);have S:=CK s 32;rw[show zw ⟨#[32]⟩ 0 (zv s ⟨#[32]⟩) s=dr s ⟨#[32]⟩from rfl,<-hl,S,cC]at m;have hwl:(cW 32 s.data.toList).length<=401:=cD (Ao 32 _) (by omega);have U:∀x∈cW 32 s.data.toList,x.length<=1000:=λx hx=>by have:=JW _ x hx;omega
   have hq:i7 s.data.toList=match fl η (cW 32 s.data.toList) []with|some x=>γ x.1|none=>ζ:=by unfold i7;rw[aP (by omega)]
   rw[hq];generalize cW 32 s.data.toList=g at*;clear hl S hm hq hsl
   --the reader
   have n:∀c,c=i.alloc (om g)->iw c.heap.size i.heap.size g 0 (c.alloc (.cells #[.slice (γ ⟨i.heap.size,0,ζ⟩) g.length g.length,ι 0] 224))/\Fr (aq w) w (c.alloc (.cells #[.slice (γ ⟨i.heap.size,0,ζ⟩) g.length g.length,ι 0] 224))/\lE w.heap.size (w.heap.size+1) (.string ⟨#[]⟩) (.bool η) (c.alloc (.cells #[.slice (γ ⟨i.heap.size,0,ζ⟩) g.length g.length,ι 0] 224))/\w.heap.size+1<c.heap.size:=λc d=>by
    obtain⟨f1,c1⟩:=Xd d;have fa:=eR (fk c (.cells #[.slice (γ ⟨i.heap.size,0,ζ⟩) g.length g.length,ι 0] 224) ζ) (M:=aq c) λk e=>by cases e
    have W:=(cm.1 c1).1;have hb:=y.facts.2.2.2.2;exact⟨⟨l8 _ _,(fa.block _ W (fY.2 W)).trans c1⟩,dh (dh N f1) fa,(y.vk f1).vk fa,eE hb f1.size⟩
   have l:∀c,c=i.alloc (om g)->aH θ 223 #[.pointer (γ ⟨c.heap.size,0,ζ⟩),.bool η] (c.alloc (.cells #[.slice (γ ⟨i.heap.size,0,ζ⟩) g.length g.length,ι 0] 224)) (oQ c.heap.size i.heap.size g (fl η g []) (c.alloc (.cells #[.slice (γ ⟨i.heap.size,0,ζ⟩) g.length g.length,ι 0] 224))):=λc d=>acV U (by omega) (g.length+1) η 0 _ (by omega) (eF _) (n c d).1
   have j:∀c q,c=i.alloc (om g)->Fr (cj (c.alloc (.cells #[.slice (γ ⟨i.heap.size,0,ζ⟩) g.length g.length,ι 0] 224)) c.heap.size) (c.alloc (.cells #[.slice (γ ⟨i.heap.size,0,ζ⟩) g.length g.length,ι 0] 224)) q->Fr (aq w) w q/\lE w.heap.size (w.heap.size+1) (.string ⟨#[]⟩) (.bool η) q:=λc q d f2=>by obtain⟨_,k2,k3,k4⟩:=n c d;have hbz:=k3.facts.2.2.2.2;refine⟨k2.trans (f2.mono λk _ h=>ua h (λh=>cD k2.size h) λh=>by omega),k3.fr λk hk=>f2.block k (by omega) λh=>ua h (λh=>by omega) λh=>by omega⟩
   clear hwl U n N y ht;cases p:fl η g []with
   |none=>
    rw[p]at l;clear p
    go_enter_defers P0,P_
    go_wp2_with fail
    refine(te _).mono ?_;rintro e w4 ⟨rfl,rfl⟩
    go_wp2_with fail
    refine m.mono ?_;rintro e c ⟨rfl,d⟩;have hu:=l c d;have hn:=λq=>j c q d
    clear l j m d
    go_wp2_with fail
    refine hu.mono ?_;rintro e w5 ⟨f5,C⟩;obtain rfl:=C;obtain⟨fW,I⟩:=hn _ f5;obtain⟨D,G,z,A,H⟩:=I.facts;refine wC (f:=221) (args:= #[.pointer (γ ⟨w.heap.size,0,ζ⟩),.pointer (γ ⟨w.heap.size+1,0,ζ⟩)]) (by simp) (by simp[go_sem]) ?_;refine(JQ _ _ _ _ [] _ (ft _) D G z A H).mono ?_;rintro e u' B ⟨rfl,rfl,o,rfl⟩;obtain⟨P,Q,R⟩:=JG I (ft _) fW (aR _) o;simp[wa,wD,results,Qd,go_sem,P,Q];exact⟨rfl,R⟩
   |some x=>
    obtain⟨T,r⟩:=x;rw[p]at l;clear p
    go_enter_defers P0,P_
    go_wp2_with fail
    refine(te _).mono ?_;rintro e w4 ⟨rfl,rfl⟩
    go_wp2_with fail
    refine m.mono ?_;rintro e c ⟨rfl,d⟩;have hu:=l c d;have hn:=λq=>j c q d
    clear l j m d
    go_wp2_with fail
    refine hu.mono ?_;rintro e w5 ⟨f5,C,_⟩;obtain rfl:=C;obtain⟨fW,I⟩:=hn _ f5;obtain⟨D,G,z,A,H⟩:=I.facts;have q6:∀v,(w5.setCell ⟨w.heap.size,0,ζ⟩ v).cell? ⟨w.heap.size+1,0,ζ⟩=γ (.bool η):=λv=>(nL (a:=⟨w.heap.size+1,0,ζ⟩) (kj _ _ _ _ (Nat.succ_ne_self _))).trans z
    have q7:∀v,(w5.setCell ⟨w.heap.size,0,ζ⟩ v).frozen? ⟨w.heap.size+1,0,ζ⟩=η:=λv=>(DZ (a:=⟨w.heap.size+1,0,ζ⟩) (kj _ _ _ _ (Nat.succ_ne_self _))).trans A
    have bp:=I.put (ft _) (u:=.string ⟨T.toArray⟩) (v:=.bool ε);have fp:=SH fW (a:=w.heap.size) (b:=w.heap.size+1) (u:=.string ⟨T.toArray⟩) (v:=.bool ε) (aR _) (Nat.le_succ _);obtain⟨p1,_,p3,_⟩:=bp.facts;clear hu hn f5 bp I
    go_wp2_with fail
    refine wC (f:=221) (args:= #[.pointer (γ ⟨w.heap.size,0,ζ⟩),.pointer (γ ⟨w.heap.size+1,0,ζ⟩)]) (by simp) (by simp[go_sem]) ?_;refine(acZ ⟨w.heap.size,0,ζ⟩ ⟨w.heap.size+1,0,ζ⟩ _).mono ?_;rintro e u' B ⟨rfl,rfl,rfl⟩;simp[wa,wD,results,Qd,go_sem,p1,p3];exact⟨rfl,fp⟩
 ·have hq:i7 s.data.toList=ζ:=by unfold i7;rw[bi (by omega)]
  rw[hq];have hz2:¬((s.size:Z)<=400):=by omega
  go_enter_defers P0,P_
  go_wp2_with fail
  refine(pd _).mono ?_;rintro e c ⟨rfl,rfl⟩;obtain⟨D,G,z,A,H⟩:=y.facts;refine wC (f:=221) (args:= #[.pointer (γ ⟨w.heap.size,0,ζ⟩),.pointer (γ ⟨w.heap.size+1,0,ζ⟩)]) (by simp) (by simp[go_sem]) ?_;refine(JQ _ _ _ _ [] _ (ft _) D G z A H).mono ?_;rintro e u' B ⟨rfl,rfl,o,rfl⟩;obtain⟨P,Q,R⟩:=JG y (ft _) N (aR _) o;simp[wa,wD,results,Qd,go_sem,P,Q];exact⟨rfl,R⟩
def KY(g:ρ->O->ρ)(n:ρ->O)(a:O->(O->E τ)->Z->κ->O)(b:O->(O->E τ)->Z->κ->O->ρ)(c:O->(O->E τ)->Z->κ->Z)(d:O->(O->E τ)->Z->κ->κ):aE:=
 ext (ext g0 178 (am [.val] (IH g n))) 177 (am rA (pN a b c d))
def aru(g:ρ->O->ρ)(n:ρ->O)(b:O->(O->E τ)->Z->κ->O)(c:O->(O->E τ)->Z->κ->O->ρ)(d:O->(O->E τ)->Z->κ->Z)(e:O->(O->E τ)->Z->κ->κ)(s:ρ):let a:=(0:Z);let f:=(aW s);let h:=(b (n s) (λj=>[cZ (g s j)]) a η);ad θ (KY g n b c d e) K 100 f116 [.v (.string s)] [] (af 0)
 =bif ο ((↑f:Z)> (400:Z))then rO [AV.Ψ [AV.own 0 0,vB η]] [AB.row ε 0 1 (λ_=>[]) 9]else Ω [Δ f 4294967281,Θ (n s) (n s),e (n s) (λj=>[cZ (g s j)]) a η] (rO [AV.Ψ [AV.own 0 h,AV.v (.bool (ο (d (n s) (λj=>[cZ (g s j)]) a η>=a)))]] [AB.row ε h 1 (λj=>[cZ (c (n s) (λj=>[cZ (g s j)]) a η j)]) 9]):=by intros;kernel_rfl
def i4(s:ρ):zV:=if s.size<=400 then dE η (cX (ev s 32)) []else⟨[],ζ,η⟩
def rH(s:ρ):O:=(i4 s).T.length
def vr(s:ρ)(j:O):ρ:=c8 (i4 s).T j
def rG(s:ρ):κ:=(i4 s).r.isSome
def I9(g:ρ->O->ρ)(n:ρ->O)(k:ρ->κ):E SA->χ FR
 |[.v (.string s)]=>γ {val:=.Ψ [.own 0 (n s),.v (.bool (k s))],new:=[.row ε (n s) 1 (λj=>[.string (g s j)]) 9]}
 |_=>ζ
def af':aK θ (KY nV kx j_ kz ky (jI 1002)):=az (az bt aj1) akj
def ES(s:ρ):cX (ev s 32)=cW 32 s.data.toList:=by rw[show(32:Z)=(((32:ψ).toNat:O):Z)from rfl,Ap,cX,qH];exact List.map_id' _
def akR:au θ 116 (am [.val] (I9 vr rH rG)):=by
 refine bY af' func116 rfl λe p b q=>?_
 unfold I9 at b;split at b
 ·rename_i s
  cases b;refine⟨[],K,100,ab.refl _,dq _,?_⟩;show aC (ad θ (KY nV kx j_ kz ky (jI 1002)) K 100 f116 [.v (.string s)] [] (af 0)) _
  rw[aru];have d:strs (λj=>[cZ (nV s j)]) (kx s)=ev s 32:=XP (ev s 32) _ rfl;have f:iq (kx s) (λj=>[cZ (nV s j)]) 0 η=dE η (cX (ev s 32)) []:=by unfold iq;rw[d];rfl
  refine ay (λc=>?_) λc=>?_
  ·have c:=aL c
   have a:i4 s=⟨[],ζ,η⟩:=by unfold i4;rw[bi (by omega)]
   have g:rH s=0:=by unfold rH;rw[a];rfl
   have h:rG s=η:=by unfold rG;rw[a];rfl
   rw[g,h];exact Φ ⟨_,rfl,rfl,.cons (Ξ.row λj i=>aO i (cN _)) .nil⟩
  ·have c:=cE c
   have a:i4 s=iq (kx s) (λj=>[cZ (nV s j)]) 0 η:=by rw[f];unfold i4;rw[aP (by omega)]
   have t:kx s<=401:=by
    have:=ES s;have k:(cX (ev s 32)).length=kx s:=by rw[cC];rfl
    have u:=Ao 32 s.data.toList;have v:s.data.toList.length=s.size:=by rw[lx];rfl
    rw[<-k,this];omega
   have l:jI 1002 (kx s) (λj=>[cZ (nV s j)]) 0 η=ε:=by unfold jI;rw[show nP (kx s) (λj=>[cZ (nV s j)])=ε from bX.2 λ_ _=>rfl,show Θ (kx s) 1000=ε from by rw[aT];omega,bA (by omega:(0:Z)<=0),bA (by omega:(0:Z)<=(kx s:Z)),uv (by omega)];rfl
   have m:ο (ky (kx s) (λj=>[cZ (nV s j)]) 0 η>=0)=rG s:=by
    unfold rG ky;rw[a];cases(iq (kx s) (λj=>[cZ (nV s j)]) 0 η).r with
    |none=>rfl
    |some r=>exact bA (by show(0:Z)<=((kx s-r.length:O):Z);omega)
   have n:j_ (kx s) (λj=>[cZ (nV s j)]) 0 η=rH s:=by unfold j_ rH;rw[a]
   have o:∀j,kz (kx s) (λj=>[cZ (nV s j)]) 0 η j=vr s j:=λj=>by unfold kz vr;rw[a]
   rw[m,n];simp only[o];exact ag (by simp only[F,ah,aa,aT,bS,l];omega) (Φ ⟨_,rfl,rfl,ab.refl _⟩)
 ·cases b
def aoZ(u:ρ)(m:κ):cp θ 0 (.block 0 (.loop (a4 0 Pt))) (bD 50 (BL .normal) 0 (vN u m 0 0) [] (λa=>cond (Θ u.size 4) (cond (bU (k8 u) u.size) (a .normal (aw 0 50 [(4,.v (.bool m)),(5,.v (ι (ka u u.size)))]) []) (a .ret (aw 0 50 [(2,.v (ι 0)),(3,.v (.bool η))]) [])) .err)):=by
 refine dQ p0 (n:=200) (m:=0) (lv:=BL) (λi=>vN u m (ka u i) i) (λ_=>[]) (λi=>bU (k8 u) i=ε) u.size (λ_=>K) (du rfl rfl rfl) (aR _) rfl λa Q b i g l=>⟨cT _ _ _,?_⟩
 rcases(kZ b).symm with⟨_,b⟩|⟨o,b⟩
 ·exact b.elim
 rw[aT]at o;obtain⟨s,t⟩:=Mr u i g;have v:=Rj u i;rw[am3];refine ay (λc=>?_) λc=>?_
 ·have c:=aL c
  have w:(10:Z)^i<=1000:=by
   have:i=0\/i=1\/i=2\/i=3:=by omega
   rcases this with rfl|rfl|rfl|rfl<;>decide
  have k:aJ [ο (0<=(i:Z)),ο ((i:Z)<(u.size:Z))]=ε:=by simp only[F,ah,aa,aB];omega
  have d:k8 u i=ε->(a .ret (aw 0 50 [(2,.v (ι 0)),(3,.v (.bool η))]) []).ok Q:=λh=>by rw[og (n:=u.size) (j:=i) (by omega) h]at b;exact b
  refine ag k (ay (λe=>?_) λe=>ag k (ay (λf=>?_) λf=>ag k ?_))
  ·have e:=aL e
   refine Φ ⟨_,ab.refl _,d ?_⟩;unfold k8;rw[eJ (by omega)];rfl
  ·have f:=aL f
   refine Φ ⟨_,ab.refl _,d ?_⟩;unfold k8;rw[eJ (p:=ce u i<=57) (by omega),gP];rfl
  ·have e:=cE e
   have f:=cE f;have q:aj oC (ce u i-48)=ce u i-48:=by rw[Dt];omega
   rw[q,bR (x:=10*ka u i) (by omega),bR (x:=ce u i-48) (by omega),bR (x:=10*ka u i+(ce u i-48)) (by omega),bR (x:=(i:Z)+1) (by omega)];refine Φ ⟨i+1,⟨rfl,by omega,qj g ?_⟩,rfl,ab.refl _⟩;unfold k8;rw[bA (by omega),bA (by omega)];rfl
 ·have c:=cE c
  have:i=u.size:=by omega
  subst this;refine Φ ⟨_,ab.refl _,?_⟩;rw[aP rfl];rw[g]at b;exact b
def aeS(s:ρ):s.extract 1 (a5 (s.size:Z))=s.extract 1 s.size:=rfl
def akM:au θ 102 (am [.val] (I7 jP kE)):=by
 refine bY p0 func102 rfl λq u n w=>?_
 unfold I7 at n;split at n
 ·rename_i s
  cases n;refine⟨[],LV (dJ s) (lm s) (Θ (dJ s).size 4) (bU (k8 (dJ s)) (dJ s).size) (ka (dJ s) (dJ s).size),200,ab.refl _,cz (by kernel_rfl) (aoZ _ _),?_⟩;show aC (ad θ m4 (LV (dJ s) (lm s) (Θ (dJ s).size 4) (bU (k8 (dJ s)) (dJ s).size) (ka (dJ s) (dJ s).size)) 200 Pt [.v (.string s)] [] (af 0)) _
  rw[aro];have j:∀v b,jP s=v->kE s=b->aC (.out .ret [.Ψ [.v (ι v),.v (.bool b)]] []) (dV (bI [Md.val] [SA.v (.string s)] []) {val:=.Ψ [.v (ι (jP s)),.v (.bool (kE s))]}):=by rintro v b rfl rfl;exact Φ ⟨_,rfl,rfl,ab.refl _⟩
  have g:kE s=η->aC (.out .ret [.Ψ [.v (ι 0),.v (.bool η)]] []) (dV (bI [Md.val] [SA.v (.string s)] []) {val:=.Ψ [.v (ι (jP s)),.v (.bool (kE s))]}):=λh=>j _ _ (by unfold jP;rw[h];rfl) h
  have size:aD (dJ s).size 1 4=η->kE s=η:=λh=>by unfold kE;rw[h];rfl
  have a:aD (dJ s).size 1 4=ε->aC (bif bU (k8 (dJ s)) (dJ s).size then bif lm s then .out .ret [.Ψ [.v (ι (aj a7 (0-ka (dJ s) (dJ s).size))),.v (.bool ε)]] []else .out .ret [.Ψ [.v (ι (ka (dJ s) (dJ s).size)),.v (.bool ε)]] []else .out .ret [.Ψ [.v (ι 0),.v (.bool η)]] []) (dV (bI [Md.val] [SA.v (.string s)] []) {val:=.Ψ [.v (ι (jP s)),.v (.bool (kE s))]}):=λh=>by
   have x:=b9.1 h;refine ay (λc=>?_) λc=>g (by unfold kE;rw[c,gP])
   have o:kE s=ε:=by unfold kE;rw[h,c];rfl
   have y:=Mr _ _ c;have z:(10:Z)^(dJ s).size<=10000:=by
    have:(dJ s).size=1\/(dJ s).size=2\/(dJ s).size=3\/(dJ s).size=4:=by omega
    rcases this with h|h|h|h<;>rw[h]<;>decide
   refine ay (λd=>j _ _ ?_ o) λd=>j _ _ ?_ o
   ·unfold jP
    rw[o,d,bR (by omega)];simp
   ·unfold jP
    rw[o,d];rfl
  have f:∀P:Prop,P->aD (dJ s).size 1 4=ε->aJ [cw P,Θ (dJ s).size 4]=ε:=λP h r=>by have:=b9.1 r;simp only[F,ah,aa,aT];exact⟨cg h,by omega⟩
  refine ay (λp=>?_) λp=>?_
  ·have t:=aL p
   refine ag (by simp only[F,ah,aa,aB];omega) (ay (λl=>?_) λl=>?_)
   ·have i:lm s=ε:=by unfold lm;rw[p,l];rfl
    have m:dJ s=s.extract 1 s.size:=by unfold dJ;rw[i];rfl
    refine ag (by simp only[F,ah,aa,aB];omega) ?_;rw[aeS,<-m];refine ay (λe=>g (size (by simpa using e))) λe=>ag (f _ ⟨by rw[l,i],ab.refl _⟩ (by simpa using e)) (a (by simpa using e))
   ·have i:lm s=η:=by unfold lm;rw[l,gP]
    have m:dJ s=s:=by unfold dJ;rw[i];rfl
    rw[m]at size a f⊢;refine ay (λe=>g (size (by simpa using e))) λe=>ag (f _ ⟨by rw[l,i],ab.refl _⟩ (by simpa using e)) (a (by simpa using e))
  ·have i:lm s=η:=by unfold lm;rw[p];rfl
   have m:dJ s=s:=by unfold dJ;rw[i];rfl
   rw[m]at size a f⊢;refine ay (λe=>g (size (by simpa using e))) λe=>ag (f _ ⟨by rw[i],ab.refl _⟩ (by simpa using e)) (a (by simpa using e))
 ·cases n
def o0(bad:O->κ):O->O
 |0=>0
 |n+1=>if o0 bad n<n then o0 bad n else if bad n then n else n+1
def xy{bad:O->κ}:∀{n:O},bU bad n=ε->o0 bad n=n
 |0,_=>rfl
 |n+1,h=>by rw[qi]at h;unfold o0;rw[xy (n:=n) (qi.2 λi a=>h i (by omega)),bi (nF _),bi (by rw[h n (ft n)];simp)]
def SJ{bad:O->κ}{i:O}(h:bU bad i=ε)(a:bad i=ε):∀{n:O},i<n->o0 bad n=i
 |0,b=>aO b (cN _)
 |n+1,b=>by
  unfold o0;by_cases c:i<n
  ·rw[SJ h a c,aP c]
  ·have:i=n:=by omega
   subst this;rw[xy h,bi (nF _),aP a]
def mb(q:O->ρ)(i:O):κ:= !kE (q i)
def S':aK θ (FQ bG cH jP kE):=az (az bt VM) akM
def ao0(k:Z)(m:O)(q:O->ρ)(l:m<=2^38):cp θ 0 (.block 0 (.loop (a4 0 PH))) (bD 40 (BM .normal) 0 (CW k m 0 0) (Bm m q 0 λj=>jP (q j)) (λa=>cond (bU (mb q) m) (a .normal (aw 0 40 [(1,.v (ι k)),(7,.own 0 m)]) [.row ε m 1 (pj λj=>jP (q j)) 3]) (a .ret (aw 0 40 [(4,.own 0 (o0 (mb q) m)),(5,.v (.bool η))]) [.row ε (o0 (mb q) m) 1 (pj λj=>jP (q j)) 3]))):=by
 refine dQ S' (n:=200) (m:=0) (lv:=BM) (λi=>CW k m i i) (λi=>Bm m q i λj=>jP (q j)) (λi=>bU (mb q) i=ε) m (λ_=>K) (du rfl rfl rfl) (aR _) rfl λa Q c i d h=>⟨cT _ _ _,?_⟩
 rw[am4];refine ay (λb=>?_) λb=>?_
 ·have b:=aL b
  rw[cY,bR (x:=(i:Z)+1) (by omega)];refine ag (by simp only[F,ah,aa,aB];omega) (ay (λe=>?_) λe=>ag (by simp only[F,ah,aa,aT];omega) (Φ ⟨i+1,⟨rfl,by omega,qj d e⟩,rfl,.cons (Ξ.refl _) (.cons (Ξ.row λj p=>?_) .nil)⟩))
  ·have g:mb q i=ε:=e
   refine Φ ⟨_,ab.refl _,?_⟩;rw[og (n:=m) (j:=i) (by omega) g,SJ d g (by omega)]at c;exact c
  ·show[ι _]=[ι _]
   by_cases f:j<i
   ·rw[uv f]
    rfl
   ·have:j=i:=by omega
    subst this;rw[Af (nF j)];rfl
 ·have b:=cE b
  have:i=m:=by omega
  subst this;refine Φ ⟨_,ab.refl _,?_⟩;rw[aP rfl];rw[d]at c;exact c
def iJ(s:ρ):O:=o0 (mb (bG s 32)) (cH s 32)
def jm(k:Z)(s:ρ):κ:=bU (mb (bG s 32)) (cH s 32)&&((cH s 32:Z)==k)
def nd(s:ρ)(j:O):Z:=jP (bG s 32 j)
def zX(a:ρ->O)(b:Z->ρ->κ)(c:ρ->O->Z):E SA->χ FR
 |[.v (.string s),.v (.int .i64 k)]=>γ {val:=.Ψ [.own 0 (a s),.v (.bool (b k s))],new:=[.row ε (a s) 1 (pj (c s)) 3],ap:=[Δ s.size 4294967281]}
 |_=>ζ
def MO:au θ 51 (am [.val,.val] (zX iJ jm nd)):=by
 refine bY S' func51 rfl λd h a b=>?_
 unfold zX at a;split at a
 ·rename_i s k
  cases a;simp only[F,ah,aa]at b;have e:=b;rw[bS]at e;have f:cH s 32<=2^38:=by
   have:=qV s 32 (s.size+1);show(ca s 32 (s.size+1)).1.length<=2^38
   omega
  refine⟨[],LW k (cH s 32) (bG s 32) (λj=>jP (bG s 32 j)) (bU (mb (bG s 32)) (cH s 32)) (o0 (mb (bG s 32)) (cH s 32)),200,ab.refl _,cz (by kernel_rfl) (ao0 k (cH s 32) (bG s 32) f),?_⟩;show aC (ad θ (FQ bG cH jP kE) (LW k (cH s 32) (bG s 32) (λj=>jP (bG s 32 j)) (bU (mb (bG s 32)) (cH s 32)) (o0 (mb (bG s 32)) (cH s 32))) 200 PH [.v (.string s),.v (ι k)] [] (af 0)) _
  rw[arp];refine ag (by simp only[F,ah,aa];exact⟨b,cg ⟨trivial,.cons (Ξ.refl _) (.cons (Ξ.row λj g=>aO g (cN _)) .nil)⟩⟩) (ay (λc=>?_) λc=>?_)
  ·refine Φ ⟨_,rfl,?_,?_⟩
   ·show[AV.Ψ [.own 0 (cH s 32),.v (.bool ((cH s 32:Z)==k))]]=[AV.Ψ [.own 0 (iJ s),.v (.bool (jm k s))]]
    rw[show iJ s=cH s 32 from xy c,show jm k s=((cH s 32:Z)==k) by unfold jm;rw[c];rfl]
   ·show ab _ [.row ε (iJ s) 1 (pj (nd s)) 3]
    rw[show iJ s=cH s 32 from xy c];exact ab.refl _
  ·refine Φ ⟨_,rfl,?_,ab.refl _⟩
   show[AV.Ψ [.own 0 (iJ s),.v (.bool η)]]=[AV.Ψ [.own 0 (iJ s),.v (.bool (jm k s))]]
   rw[show jm k s=η by unfold jm;rw[c];rfl]
 ·cases a
def JX{s:ρ}{j:O}(h:j<cH s 32):(cW 32 s.data.toList).getD j []=(bG s 32 j).data.toList/\(cW 32 s.data.toList).length=cH s 32:=by rw[<-ES];unfold cX bG et cH at*;refine⟨?_,cC _⟩;rw[cq,List.getElem?_map,cq,cV h];rfl
def JY(s:ρ):(cW 32 s.data.toList).length=cH s 32:=by rw[<-ES];exact cC _
def nf(k:O)(s:ρ):jm k s=cP k s.data.toList:=by
 unfold jm cP;rw[JY,Bool.and_comm]
 congr 1
 ·rw[kk,ks,Nat.beq_eq]
  omega
 ·rw[kk,qi,bX]
  constructor
  ·intro h x e
   obtain⟨j,b,rfl⟩:=List.mem_iff_getElem.1 e;have a:j<cH s 32:=by rw[<-JY];exact b
   have d:=h j a;have c:=(JX a).1;rw[cq,cV b,g9]at c;rw[c,<-Gx];unfold mb at d;simpa using d
  ·intro h j b
   have a:j<(cW 32 s.data.toList).length:=by rw[JY];exact b
   have c:=(JX b).1;rw[cq,cV a,g9]at c;unfold mb;rw[Gx,<-c,h _ (ko a)];rfl
def ti{k:O}{s:ρ}(h:cP k s.data.toList=ε):iJ s=k:=by
 have a:=h;rw[<-nf]at a;unfold jm at a;rw[aM]at a;unfold iJ;rw[xy a.1];have:(cH s 32:Z)=k:=by simpa using a.2
 omega
def qg{k j:O}{s:ρ}(h:cP k s.data.toList=ε)(e:j<k):nd s j=aI s.data.toList j:=by
 have d:=ti h;have a:=h;rw[<-nf]at a;unfold jm at a;rw[aM]at a;unfold iJ at d;rw[xy a.1]at d;have b:j<cH s 32:=by omega
 have c:=(qi.1 a.1) j b;unfold nd aI;rw[(JX b).1];unfold mb at c;rw[Gx]at c;exact asw _ (by simpa using c)
def E0(a:l_)(s:ρ):ρ:=⟨(q1 (jk a (lj s.data.toList))).toArray⟩
structure Qy (Sg:l_) (s:ρ):Prop where
 size:s.size<=900
 ok:∀l∈lj s.data.toList,zZ Sg l
 len:∀k,(jk Sg ((lj s.data.toList).take k)).2.length<=90000000
 lst:∀k,(jk Sg ((lj s.data.toList).take k)).1.length<=100000
noncomputable def J_(a:l_)(s:ρ):κ:= @ο (Qy a s) (Hs _)
def R8{a:l_}{s:ρ}:J_ a s=ε↔Qy a s:=by unfold J_;exact @decide_eq_true_iff _ (Hs _)
def Fr.none{w w':υ}(f:Fr (aq w) w w'):Fr (λ_=>False) w w':=⟨f.os,f.tape,f.output,f.size,λk a _=>f.block k a (fY.2 a)⟩
def IX(e:Z->Z->Z->Z->O->Z):E τ->χ (τ×E κ)
 |[.agg ⟨[.int .i64 a,.int .i64 b]⟩,.agg ⟨[.int .i64 c,.int .i64 d]⟩]=>γ (.agg ⟨[ι (e a b c d 0),ι (e a b c d 1),ι (e a b c d 2),ι (e a b c d 3)]⟩,[])
 |_=>ζ
def rb(a:Z->Z->Z->Z->O->Z):aE:=ext g0 180 (aS (IX a))
structure dW where
 x:Z
 y:Z
 t:Z
 d:κ
 a:O
 mv:O->E τ
 c:O
 eg:O->E τ
abbrev lM:Ex->E O:=cx [0,3,4] [3] [2]
abbrev j5(tp:ae)(n:O)(w:O->ρ)(s:dW):E AB:=[.row ε n 1 (λj=>[.string (w j)]) tp,.cells [.v (ι s.x),.v (ι s.y),.v (.bool s.d),.v (ι s.t),.own 2 s.a,.own 3 s.c] 142,.row ε s.a 2 s.mv 82,.row ε s.c 4 s.eg 191]
abbrev nm(n:O)(i:Z):E AV:=[.own 0 n,.ptr 1 0 0 0,.v (ι i)]
abbrev vx:dW:=⟨0,0,0,η,0,λ_=>[],0,λ_=>[]⟩
def aqY(a b c d:Z):let e:=[AV.agg [vI c,vI d,vI a,vI b]];let f:=[AV.agg [vI a,vI b,vI c,vI d]];ad θ g0 K 100 f180 [.v (.agg ⟨[ι a,ι b]⟩),.v (.agg ⟨[ι c,ι d]⟩)] [] ed
 =bif ο (c<a)then rO e []else bif c==a then bif ο (d<b)then rO e []else rO f []else rO f []:=by intros;kernel_rfl
noncomputable abbrev LY(tp:ae)(n:O)(w:O->ρ)(s:dW):O->χ Sum:=bJ 0 (bD 125 (lM .normal) 1 (nm n 0) (j5 tp n w vx) (λa=>a .normal (aw 0 125 [(3,.ptr 1 0 0 0)]) (j5 tp n w s)))
def arE(h:Z->Z->Z->Z->O->Z)(tp:ae)(n:O)(w:O->ρ)(x y t:Z)(d:κ)(a:O)(e:O->E τ)(c:O)(f:O->E τ):let b:=(dW.mk x y t d a e c f);let g:=AB.row ε n 1 (λj=>[cZ (w j)]) tp;ad θ (rb h) (LY tp n w ⟨x,y,t,d,a,e,c,f⟩) 200 ub [.own 0 n] [.row ε n 1 (λj=>[.string (w j)]) tp] (af 1)
 =Ω [cw ([AV.own 0 n,AV.ptr 1 0 0 0,vI 0]=nm n (0:Z)/\ab [g,AB.cells [vI 0,vI 0,vB η,vI 0,AV.own 2 0,AV.own 3 0] 142,AB.row ε 0 2 (λ_=>[]) 82,AB.row ε 0 4 (λ_=>[]) 191] (j5 tp n w vx))] (rO [AV.ptr 1 0 0 0] [g,AB.cells [vI (dW.x b),vI (dW.y b),AV.v (.bool (dW.d b)),vI (dW.t b),AV.own 2 (dW.a b),AV.own 3 (dW.c b)] 142,AB.row ε (dW.a b) 2 (dW.mv b) 82,AB.row ε (dW.c b) 4 (dW.eg b) 191]):=by intros;kernel_rfl
def yO(tp:ae)(n:O)(w:O->ρ)(i:O)(s:dW):ao:=.out .normal (nm n (aj .i64 ((i:Z)+1))) (j5 tp n w s)
def Np(a b:Z)(s:dW):dW:=
 ⟨aj .i64 (s.x+a),aj .i64 (s.y+b),s.t,s.d,s.a+1,λq=>ll (Δ q s.a) (s.mv q) [ι a,ι b],s.c,s.eg⟩
def Nq(c:Z->Z->Z->Z->O->Z)(a b:Z)(s:dW):dW:=
 ⟨aj .i64 (s.x+a),aj .i64 (s.y+b),s.t,s.d,s.a+1,λq=>ll (Δ q s.a) (s.mv q) [ι a,ι b],s.c+1,λq=>ll (Δ q s.c) (s.eg q) [ι (c s.x s.y (aj .i64 (s.x+a)) (aj .i64 (s.y+b)) 0),ι (c s.x s.y (aj .i64 (s.x+a)) (aj .i64 (s.y+b)) 1),ι (c s.x s.y (aj .i64 (s.x+a)) (aj .i64 (s.y+b)) 2),ι (c s.x s.y (aj .i64 (s.x+a)) (aj .i64 (s.y+b)) 3)]⟩
def yN(n i:O):E κ:=[ο ((i:Z)<(n:Z)),ο (a5 (i:Z)<n)]
def nh(b:ψ):ρ:=a8 (bj [b])
def yP(c:Z->Z->Z->Z->O->Z)(tp:ae)(n:O)(w:O->ρ)(i:O)(s:dW)(a b:Z):ao:=
 Ω [Θ s.a s.a,Θ (s.a+1) 549755813888] (bif s.d then Ω [Θ s.c s.c,Θ (s.c+1) 549755813888] (yO tp n w i (Nq c a b s))else yO tp n w i (Np a b s))
def vw(tp:ae)(n:O)(w:O->ρ)(i:O)(s:dW)(b:Z)(a:ao):ao:=
 Ω (yN n i) (bif cK (w (a5 (i:Z))) (nh 117)then yO tp n w i {s with d:=η}else Ω (yN n i) (bif cK (w (a5 (i:Z))) (nh 100)then yO tp n w i {s with d:=ε}else Ω (yN n i) (bif cK (w (a5 (i:Z))) (nh 116)then yO tp n w i {s with t:=b}else a)))
def tu(b:Z->Z->Z->Z->O->Z)(tp:ae)(n:O)(w:O->ρ)(i:O)(s:dW)(a:Z)(c d:aQ):ao:=
 bif ο ((i:Z)<(n:Z))then Ω (yN n i) (bif cK (w (a5 (i:Z))) (nh 101)then vw tp n w i s a (yP b tp n w i s (c 0) (d 0))else bif cK (w (a5 (i:Z))) (nh 110)then vw tp n w i s a (yP b tp n w i s (c 1) (d 1))else bif cK (w (a5 (i:Z))) (nh 119)then vw tp n w i s a (yP b tp n w i s (c 2) (d 2))else bif cK (w (a5 (i:Z))) (nh 115)then vw tp n w i s a (yP b tp n w i s (c 3) (d 3))else vw tp n w i s a (yO tp n w i s))
 else .out (.exit 0) [.ptr 1 0 0 0] (j5 tp n w s)
def Xg(b:Z->Z->Z->Z->O->Z)(tp:ae)(n:O)(w:O->ρ)(x y:Z)(d:κ)(a:O)(e:O->E τ)(c:O)(f:O->E τ)(i:O):a0 θ (rb b) 200 K (a4 0 ub) (aw 0 125 ((lM .normal).zip (nm n i))) (j5 tp n w ⟨x,y,0,d,a,e,c,f⟩) (cJ 125 lM 1)=tu b tp n w i ⟨x,y,0,d,a,e,c,f⟩ 1 (λk=>ow ((k+0)%4)) (λk=>oz ((k+0)%4)):=by kernel_rfl
def Xh(b:Z->Z->Z->Z->O->Z)(tp:ae)(n:O)(w:O->ρ)(x y:Z)(d:κ)(a:O)(e:O->E τ)(c:O)(f:O->E τ)(i:O):a0 θ (rb b) 200 K (a4 0 ub) (aw 0 125 ((lM .normal).zip (nm n i))) (j5 tp n w ⟨x,y,1,d,a,e,c,f⟩) (cJ 125 lM 1)=tu b tp n w i ⟨x,y,1,d,a,e,c,f⟩ 2 (λk=>ow ((k+1)%4)) (λk=>oz ((k+1)%4)):=by kernel_rfl
def Xi(b:Z->Z->Z->Z->O->Z)(tp:ae)(n:O)(w:O->ρ)(x y:Z)(d:κ)(a:O)(e:O->E τ)(c:O)(f:O->E τ)(i:O):a0 θ (rb b) 200 K (a4 0 ub) (aw 0 125 ((lM .normal).zip (nm n i))) (j5 tp n w ⟨x,y,2,d,a,e,c,f⟩) (cJ 125 lM 1)=tu b tp n w i ⟨x,y,2,d,a,e,c,f⟩ 3 (λk=>ow ((k+2)%4)) (λk=>oz ((k+2)%4)):=by kernel_rfl
def Xj(b:Z->Z->Z->Z->O->Z)(tp:ae)(n:O)(w:O->ρ)(x y:Z)(d:κ)(a:O)(e:O->E τ)(c:O)(f:O->E τ)(i:O):a0 θ (rb b) 200 K (a4 0 ub) (aw 0 125 ((lM .normal).zip (nm n i))) (j5 tp n w ⟨x,y,3,d,a,e,c,f⟩) (cJ 125 lM 1)=tu b tp n w i ⟨x,y,3,d,a,e,c,f⟩ 0 (λk=>ow ((k+3)%4)) (λk=>oz ((k+3)%4)):=by kernel_rfl
def CD(e:Z->Z->Z->Z->O->Z)(f:Z)(a c:aQ)(b:ψ)(s:dW):dW:=
 bif b==117 then{s with d:=η}else bif b==100 then{s with d:=ε}else bif b==116 then{s with t:=f}
 else bif s.d then Nq e (a (ns b)) (c (ns b)) s else Np (a (ns b)) (c (ns b)) s
def G1{r:Z->Z->Z->Z->O->Z}{tp:ae}{n:O}{w:O->ρ}{i:O}{s:dW}{t:Z}{u v:O->Z}{b:ψ}{Q:Ex->E AV->E AB->Prop}(B:jN b=ε)(C:w i=nh b)(H:i<n)(I:s.a<1000)(x:s.c<1000)(h:Q .normal (nm n (aj .i64 ((i:Z)+1))) (j5 tp n w (CD r t u v b s))):aC (tu r tp n w i s t u v) Q:=by
 have f:∀c,cK (w (a5 (i:Z))) (nh c)=ε↔b=c:=λc=>by rw[cY,C];unfold nh;rw[J7,aB];exact⟨λh=>by cases h;rfl,λh=>by rw[h]⟩
 have l:aJ (yN n i)=ε:=by unfold yN;simp only[F,ah,aa,aB];omega
 have m:∀k,b≠117->b≠100->b≠116->ns b=k->aC (yP r tp n w i s (u k) (v k)) Q:=λk y z A j=>by
  unfold CD at h;rw[dT.2 y,dT.2 z,dT.2 A,a_,a_,a_,j]at h;unfold yP;refine ag (by simp only[F,ah,aa,aT];omega) (ay (λc=>?_) λc=>?_)
  ·rw[c,aZ]at h
   exact ag (by simp only[F,ah,aa,aT];omega) (Φ h)
  ·rw[c,a_]at h
   exact Φ h
 have j:∀d,(b≠117->b≠100->b≠116->aC d Q)->aC (vw tp n w i s t d) Q:=λd D=>by
  unfold vw;refine ag l (ay (λc=>?_) λo=>ag l (ay (λc=>?_) λp=>ag l (ay (λc=>?_) λq=>D ?_ ?_ ?_)))
  ·obtain rfl:=(f 117).1 c
   exact Φ h
  ·obtain rfl:=(f 100).1 c
   exact Φ h
  ·obtain rfl:=(f 116).1 c
   exact Φ h
  ·exact λe=>by rw[(f 117).2 e]at o;cases o
  ·exact λe=>by rw[(f 100).2 e]at p;cases p
  ·exact λe=>by rw[(f 116).2 e]at q;cases q
 unfold tu;refine eS (bA (by omega)) (ag l (ay (λc=>?_) λo=>ay (λc=>?_) λp=>ay (λc=>?_) λq=>ay (λc=>?_) λG=>?_))
 ·obtain rfl:=(f 101).1 c
  exact j _ λa b c=>m 0 a b c rfl
 ·obtain rfl:=(f 110).1 c
  exact j _ λa b c=>m 1 a b c rfl
 ·obtain rfl:=(f 119).1 c
  exact j _ λa b c=>m 2 a b c rfl
 ·obtain rfl:=(f 115).1 c
  exact j _ λa b c=>m 3 a b c rfl
 ·refine j _ λy z A=>aO B ?_
  have g:∀c,cK (w (a5 (i:Z))) (nh c)=η->b≠c:=λc x e=>by rw[(f c).2 e]at x;cases x
  unfold jN;rw[dT.2 y,dT.2 z,dT.2 A,dT.2 (g _ o),dT.2 (g _ p),dT.2 (g _ q),dT.2 (g _ G)]
  decide
def ki(a:Z->Z->Z->Z->O->Z)(s:dW)(b:ψ):dW:=CD a ((s.t+1)%4) (λk=>ow ((k+s.t.toNat)%4)) (λk=>oz ((k+s.t.toNat)%4)) b s
def lr(a:Z->Z->Z->Z->O->Z)(T:E ψ):dW:=T.foldl (ki a) vx
def anM{a:Z->Z->Z->Z->O->Z}{s:dW}{b:ψ}{m:O}(h:(0<=s.t/\s.t<4)/\s.a<=m/\s.c<=m):(0<=(ki a s b).t/\(ki a s b).t<4)/\(ki a s b).a<=m+1/\(ki a s b).c<=m+1:=by
 unfold ki CD;cases b==117 with
 |true=>simp only[aZ];omega
 |false=>
  cases b==100 with
  |true=>simp only[aZ,a_];omega
  |false=>
   cases b==116 with
   |true=>simp only[aZ,a_];omega
   |false=>
    cases c:s.d with
    |true=>simp only[aZ,a_,Nq];omega
    |false=>simp only[a_,Np];omega
def Xe(a:Z->Z->Z->Z->O->Z):∀(T:E ψ)(s:dW)(m:O),((0<=s.t/\s.t<4)/\s.a<=m/\s.c<=m)->((0<=(T.foldl (ki a) s).t/\(T.foldl (ki a) s).t<4)/\(T.foldl (ki a) s).a<=m+T.length/\(T.foldl (ki a) s).c<=m+T.length)
 |[],_,_,h=>h
 |b::T,s,m,h=>by have:=Xe a T (ki a s b) (m+1) (anM h);rw[zA,cn];omega
def Xf(a:Z->Z->Z->Z->O->Z):∀(T:E ψ)(s:dW)(p:oP)(m:O),m+T.length<=1000000->((-(m:Z)<=p.x/\p.x<=m)/\(-(m:Z)<=p.y/\p.y<=m)/\p.t<4)->(s.x=p.x/\s.y=p.y/\s.t=p.t)->(T.foldl (ki a) s).x=(T.foldl eP p).x/\(T.foldl (ki a) s).y=(T.foldl eP p).y/\(T.foldl (ki a) s).t=(T.foldl eP p).t
 |[],_,_,_,_,_,h=>h
 |b::T,s,p,m,k,l,h=>by
  rw[cn]at k;rw[zA,zA];have f:=Wu (b:=b) l;refine Xf a T (ki a s b) (eP p b) (m+1) (by omega) (by rw[Int.natCast_succ];exact f) ?_;obtain⟨c,d,e⟩:=h;have g:s.t.toNat=p.t:=by omega
  have n:=Y5 ((ns b+p.t)%4);unfold ki CD eP;rw[g];cases b==117 with
  |true=>exact⟨c,d,e⟩
  |false=>
   cases b==100 with
   |true=>exact⟨c,d,e⟩
   |false=>
    cases b==116 with
    |true=>
     refine⟨c,d,?_⟩;show(s.t+1)%4=(((p.t+1)%4:O):Z)
     omega
    |false=>
     have i:aj a7 (s.x+ow ((ns b+p.t)%4))=p.x+ow ((ns b+p.t)%4):=by rw[c];exact bR (by omega)
     have j:aj a7 (s.y+oz ((ns b+p.t)%4))=p.y+oz ((ns b+p.t)%4):=by rw[d];exact bR (by omega)
     cases s.d with
     |true=>exact⟨i,j,e⟩
     |false=>exact⟨i,j,e⟩
def xg(a b c d:Z):κ:=ο (c<a)||(c==a&&ο (d<b))
def fE(a b c d:Z)(k:O):Z:=bif xg a b c d then(match k with|0=>c|1=>d|2=>a|_=>b)else(match k with|0=>a|1=>b|2=>c|_=>d)
def ake:au θ 180 (aS (IX fE)):=by
 refine en (n:=100) bt func180 rfl λm x o f p=>?_
 unfold IX at f;split at f
 ·rename_i a b c d
  simp only[ar,cG]at f;obtain⟨rfl,rfl⟩:=f;have e:=aqY a b c d;simp only[eD,kp];rw[e];have i:∀q,q=xg a b c d->aC (.out .ret [.agg (bif q then[.v (ι c),.v (ι d),.v (ι a),.v (ι b)]else[.v (ι a),.v (ι b),.v (ι c),.v (ι d)])] []) (nO (.agg ⟨[ι (fE a b c d 0),ι (fE a b c d 1),ι (fE a b c d 2),ι (fE a b c d 3)]⟩)):=λq l=>by
   unfold fE;rw[<-l];cases q with
   |true=>exact Φ ⟨_,rfl,rfl⟩
   |false=>exact Φ ⟨_,rfl,rfl⟩
  suffices h:aC _ (nO (.agg ⟨[ι (fE a b c d 0),ι (fE a b c d 1),ι (fE a b c d 2),ι (fE a b c d 3)]⟩))from⟨h.out⟩
  refine ay (λg=>?_) λg=>ay (λj=>ay (λk=>?_) λk=>?_) λj=>?_
  ·exact i ε (by unfold xg;rw[g];rfl)
  ·exact i ε (by unfold xg;rw[g,j,k];rfl)
  ·exact i η (by unfold xg;rw[g,j,k];rfl)
  ·exact i η (by unfold xg;rw[g,j];rfl)
 ·cases f
def alB(T:E ψ)(i:O):c8 T i=nh (T.getD i 0):=rfl
def anN{m:Z->Z->Z->Z->O->Z}{tp:ae}{n:O}{w:O->ρ}{i:O}{s:dW}{b:ψ}{Q:Ex->E AV->E AB->Prop}(e:jN b=ε)(f:w i=nh b)(g:i<n)(o:0<=s.t/\s.t<4)(j:s.a<1000)(k:s.c<1000)(h:Q .normal (nm n (aj .i64 ((i:Z)+1))) (j5 tp n w (ki m s b))):aC (a0 θ (rb m) 200 K (a4 0 ub) (aw 0 125 ((lM .normal).zip (nm n i))) (j5 tp n w s) (cJ 125 lM 1)) Q:=by
 obtain⟨x,y,t,d,a,p,c,q⟩:=s;have l:t=0\/t=1\/t=2\/t=3:=by simp only at o;omega
 rcases l with rfl|rfl|rfl|rfl
 ·rw[Xg];exact G1 e f g j k h
 ·rw[Xh];exact G1 e f g j k h
 ·rw[Xi];exact G1 e f g j k h
 ·rw[Xj];exact G1 e f g j k h
def anO{f:Z->Z->Z->Z->O->Z}{tp:ae}{n:O}{w:O->ρ}{i:O}{s:dW}{Q:Ex->E AV->E AB->Prop}(m:¬i<n)(l:0<=s.t/\s.t<4)(h:Q (.exit 0) [.ptr 1 0 0 0] (j5 tp n w s)):aC (a0 θ (rb f) 200 K (a4 0 ub) (aw 0 125 ((lM .normal).zip (nm n i))) (j5 tp n w s) (cJ 125 lM 1)) Q:=by
 have b:∀g j k,aC (tu f tp n w i s g j k) Q:=λg j k=>by unfold tu;exact cL (eJ (by omega)) (Φ h)
 obtain⟨x,y,t,d,a,o,c,p⟩:=s;have e:t=0\/t=1\/t=2\/t=3:=by simp only at l;omega
 rcases e with rfl|rfl|rfl|rfl
 ·rw[Xg];exact b _ _ _
 ·rw[Xh];exact b _ _ _
 ·rw[Xi];exact b _ _ _
 ·rw[Xj];exact b _ _ _
def Tf:aK θ (rb fE):=az bt ake
def ao8(tp:ae)(n:O)(T:E ψ)(g:T.all jN=ε)(o:T.length=n)(p:n<=999):cp θ 1 (.block 0 (.loop (a4 0 ub))) (bD 125 (lM .normal) 1 (nm n 0) (j5 tp n (c8 T) vx) (λa=>a .normal (aw 0 125 [(3,.ptr 1 0 0 0)]) (j5 tp n (c8 T) (lr fE T)))):=by
 have d:∀i,i<=n->(0<=(lr fE (T.take i)).t/\(lr fE (T.take i)).t<4)/\(lr fE (T.take i)).a<=i/\(lr fE (T.take i)).c<=i:=λi q=>by have:=Xe fE (T.take i) vx 0 (by decide);rw[oG,bF,show min i T.length=i by omega]at this;exact this
 have h:vx=lr fE (T.take 0):=rfl;rw[h];refine dQ Tf (n:=200) (m:=1) (lv:=lM) (λj=>nm n (j:O)) (λj=>j5 tp n (c8 T) (lr fE (T.take j))) (λ_=>True) n (λ_=>K) (du rfl rfl rfl) (aR _) trivial λa Q e j _ k=>⟨cT _ _ _,?_⟩
 have c:=d j k;by_cases b:j<n
 ·have l:jN (T.getD j 0)=ε:=by rw[cq,cV (by omega)];exact bX.1 g _ (ko _)
  refine anN l (alB T j) b c.1 (by omega) (by omega) ⟨j+1,⟨rfl,b,trivial⟩,?_,?_⟩
  ·have:((j:O):Z)+1=((j+1:O):Z):=by omega
   rw[bR (by omega),this]
  ·have:lr fE (T.take (j+1))=ki fE (lr fE (T.take j)) (T.getD j 0):=by unfold lr;rw[wl (by omega),zz,cq,cV (by omega)];rfl
   show ab _ (j5 tp n (c8 T) (lr fE (T.take (j+1))))
   rw[this];exact ab.refl _
 ·have f:j=n:=by omega
  subst f;refine anO b c.1 ⟨_,ab.refl _,?_⟩;rw[aP rfl,show T.take j=T from oH (by omega)];exact e
def me(n:O)(g:O->E τ):E ψ:=(cX (strs g n)).flatten
def vo(n:O)(g:O->E τ):κ:=nP n g&&((cX (strs g n)).all gU&&Θ n 999)
def tD(n:O)(g:O->E τ):dW:=lr fE (me n g)
def ajq{n:O}{g:O->E τ}(h:vo n g=ε):n<=999/\(me n g).all jN=ε/\(me n g).length=n/\∀j,j<n->g j=[.string (c8 (me n g) j)]:=by
 unfold vo at h;simp only[aM,aT]at h;obtain⟨l,m,o⟩:=h;have d:∀a:E ρ,(cX a).all gU=ε->((cX a).flatten).all jN=ε/\(cX a).flatten.length=a.length/\∀(j:O)(c:j<a.length),a[j]=c8 (cX a).flatten j:=by
  intro a;induction a with
  |nil=>exact λ_=>⟨rfl,rfl,λj c=>aO c (cN _)⟩
  |cons s a f=>
   intro h;unfold cX at h f⊢;rw[eD,gl,aM]at h;obtain⟨p,q,r⟩:=f h.2;have i:=h.1
   match e:s.data.toList,Gg h.1 with
   |[b],_=>
    rw[e]at i;refine⟨?_,?_,λj c=>?_⟩
    ·rw[eD,zy,e,List.all_append,p,iM,gl,List.all_nil,iM]
     exact i
    ·rw[eD,zy,e,cv,q,cn,cn,gm]
     omega
    ·rw[eD,zy,e]
     cases j with
     |zero=>apply pR;rw[List.getElem_cons_zero,e];rfl
     |succ j=>rw[List.getElem_cons_succ,r j (by simpa using c)];rfl
 have k:(strs g n).length=n:=by simp[strs]
 obtain⟨t,u,v⟩:=d (strs g n) m;refine⟨o,t,u.trans k,λj c=>?_⟩;rw[Ev l c];have:=v j (by rw[k];exact c);unfold me;rw[<-this];simp[strs]
def Jd(a:O->(O->E τ)->dW)(c:O->(O->E τ)->κ):E AV->E AB->χ HR
 |[.own 0 n],[.row ε b 1 g d]=>γ {val:=.ptr 1 0 0 0,out:=[.row ε b 1 g d],new:=[.cells [.v (ι (a n g).x),.v (ι (a n g).y),.v (.bool (a n g).d),.v (ι (a n g).t),.own 2 (a n g).a,.own 3 (a n g).c] 142,.row ε (a n g).a 2 (a n g).mv 82,.row ε (a n g).c 4 (a n g).eg 191],ap:=[ai n b,c n g]}
 |_,_=>ζ
def ak4:au θ 117 (yV [] (Jd tD vo)):=by
 refine aoh Tf func117 rfl λq H w e l=>?_
 unfold Jd at e;split at e
 ·rename_i n x g c
  cases e;simp only[F,ah,aa]at l;obtain⟨r,h⟩:=l;obtain rfl:=ci r;obtain⟨s,t,u,o⟩:=ajq h;have v:Ξ (.row ε n 1 g c) (.row ε n 1 (λj=>[.string (c8 (me n g) j)]) c):=Ξ.row λj d=>o j d
  refine⟨[.row ε n 1 (λj=>[.string (c8 (me n g) j)]) c],LY c n (c8 (me n g)) (tD n g),200,.cons v .nil,cz (by kernel_rfl) (ao8 c n (me n g) t u s),?_⟩;show aC (ad θ (rb fE) (LY c n (c8 (me n g)) (tD n g)) 200 ub [.own 0 n] [.row ε n 1 (λj=>[.string (c8 (me n g) j)]) c] (af 1)) _
  have i:∀a:dW,a=⟨a.x,a.y,a.t,a.d,a.a,a.mv,a.c,a.eg⟩:=λ_=>rfl
  rw[i (tD n g),arE];have nil:∀(b:κ)(m:O)(f p:O->E τ)(k:ae),Ξ (.row b 0 m f k) (.row b 0 m p k):=λb m f p k=>Ξ.row λj d=>aO d (cN _)
  refine ag (by simp only[F,ah,aa];exact cg ⟨by trivial,.cons (Ξ.refl _) (.cons (Ξ.refl _) (.cons (nil _ _ _ _ _) (.cons (nil _ _ _ _ _) .nil)))⟩) (Φ ⟨rfl,?_⟩);exact .cons (Ξ.row λj d=>(o j d).symm) (ab.refl _)
 ·cases e
def UD(s:ρ)(c:Z):Z:=ZS s.data.toList c.toNat.toUInt8
def I1(a:ρ->Z->Z):E τ->χ (τ×E κ)
 |[.string s,.int .u8 c]=>γ (ι (a s c),[])
 |_=>ζ
def aky:au θ 224 (aS (I1 UD)):=by
 refine nl (λargs w=>enters 224 f224 func224 rfl args w) λb x d a f w g=>?_
 unfold I1 at a;split at a
 ·rename_i s c
  simp only[ar,cG]at a;obtain⟨rfl,rfl⟩:=a;refine(Any.strings_IndexByte ah' s c w).mono ?_;rintro e h ⟨rfl,rfl⟩;exact⟨rfl,Fr.refl _ _⟩
 ·cases a
def fF:aE:=ext g0 224 (aS (I1 UD))
def af3:aK θ fF:=az bt aky
abbrev cF(x y t:Z)(d:κ)(tp:ae):E AB:=[.cells [.v (ι x),.v (ι y),.v (ι t),.v (.bool d)] tp]
def Bg(b:Z):κ:=b==101||(b==110||(b==119||b==115))
def Y4(b t:Z):O:=((bif b==101 then 0 else bif b==110 then 1 else bif b==119 then 2 else 3)+t.toNat)%4
def k_(b t:Z):Z:=bif Bg b then ow (Y4 b t)else 0
def lc(b t:Z):Z:=bif Bg b then oz (Y4 b t)else 0
def B_(b t:Z):Z:=bif b==116 then(((t.toNat+1)%4:O):Z)else t
def Vq(b:Z)(d:κ):κ:=bif b==117 then η else bif b==100 then ε else d
def G'(b:Z):κ:=b==117||(b==100||(b==116||Bg b))
def doR(b x y t:Z)(d:κ)(tp:ae)(e:Ex)(vs:E AV)(H:E AB):Prop:=e=.ret/\vs=[.Ψ [.agg [.v (ι (k_ b t)),.v (ι (lc b t))],.v (.bool (Bg b))]]/\H=cF (x+k_ b t) (y+lc b t) (B_ b t) (Vq b d) tp
def aem(x y:Z)(d:κ)(tp:ae):ad θ fF K 100 gn [.ptr 0 0 0 0,.v (.int .u8 117)] (cF x y 0 d tp) (af 1)=.out .ret [.Ψ [.agg [.v (ι 0),.v (ι 0)],.v (.bool η)]] (cF x y 0 η tp):=by kernel_rfl
def aen(x y:Z)(d:κ)(tp:ae):ad θ fF K 100 gn [.ptr 0 0 0 0,.v (.int .u8 117)] (cF x y 1 d tp) (af 1)=.out .ret [.Ψ [.agg [.v (ι 0),.v (ι 0)],.v (.bool η)]] (cF x y 1 η tp):=by kernel_rfl
def aeo(x y:Z)(d:κ)(tp:ae):ad θ fF K 100 gn [.ptr 0 0 0 0,.v (.int .u8 117)] (cF x y 2 d tp) (af 1)=.out .ret [.Ψ [.agg [.v (ι 0),.v (ι 0)],.v (.bool η)]] (cF x y 2 η tp):=by kernel_rfl
def aep(x y:Z)(d:κ)(tp:ae):ad θ fF K 100 gn [.ptr 0 0 0 0,.v (.int .u8 117)] (cF x y 3 d tp) (af 1)=.out .ret [.Ψ [.agg [.v (ι 0),.v (ι 0)],.v (.bool η)]] (cF x y 3 η tp):=by kernel_rfl
def ad4(x y:Z)(d:κ)(tp:ae):ad θ fF K 100 gn [.ptr 0 0 0 0,.v (.int .u8 100)] (cF x y 0 d tp) (af 1)=.out .ret [.Ψ [.agg [.v (ι 0),.v (ι 0)],.v (.bool η)]] (cF x y 0 ε tp):=by kernel_rfl
def ad5(x y:Z)(d:κ)(tp:ae):ad θ fF K 100 gn [.ptr 0 0 0 0,.v (.int .u8 100)] (cF x y 1 d tp) (af 1)=.out .ret [.Ψ [.agg [.v (ι 0),.v (ι 0)],.v (.bool η)]] (cF x y 1 ε tp):=by kernel_rfl
def ad6(x y:Z)(d:κ)(tp:ae):ad θ fF K 100 gn [.ptr 0 0 0 0,.v (.int .u8 100)] (cF x y 2 d tp) (af 1)=.out .ret [.Ψ [.agg [.v (ι 0),.v (ι 0)],.v (.bool η)]] (cF x y 2 ε tp):=by kernel_rfl
def ad7(x y:Z)(d:κ)(tp:ae):ad θ fF K 100 gn [.ptr 0 0 0 0,.v (.int .u8 100)] (cF x y 3 d tp) (af 1)=.out .ret [.Ψ [.agg [.v (ι 0),.v (ι 0)],.v (.bool η)]] (cF x y 3 ε tp):=by kernel_rfl
def aei(x y:Z)(d:κ)(tp:ae):ad θ fF K 100 gn [.ptr 0 0 0 0,.v (.int .u8 116)] (cF x y 0 d tp) (af 1)=.out .ret [.Ψ [.agg [.v (ι 0),.v (ι 0)],.v (.bool η)]] (cF x y 1 d tp):=by kernel_rfl
def aej(x y:Z)(d:κ)(tp:ae):ad θ fF K 100 gn [.ptr 0 0 0 0,.v (.int .u8 116)] (cF x y 1 d tp) (af 1)=.out .ret [.Ψ [.agg [.v (ι 0),.v (ι 0)],.v (.bool η)]] (cF x y 2 d tp):=by kernel_rfl
def aek(x y:Z)(d:κ)(tp:ae):ad θ fF K 100 gn [.ptr 0 0 0 0,.v (.int .u8 116)] (cF x y 2 d tp) (af 1)=.out .ret [.Ψ [.agg [.v (ι 0),.v (ι 0)],.v (.bool η)]] (cF x y 3 d tp):=by kernel_rfl
def ael(x y:Z)(d:κ)(tp:ae):ad θ fF K 100 gn [.ptr 0 0 0 0,.v (.int .u8 116)] (cF x y 3 d tp) (af 1)=.out .ret [.Ψ [.agg [.v (ι 0),.v (ι 0)],.v (.bool η)]] (cF x y 0 d tp):=by kernel_rfl
def ad8(x y:Z)(d:κ)(tp:ae):ad θ fF K 100 gn [.ptr 0 0 0 0,.v (.int .u8 101)] (cF x y 0 d tp) (af 1)=.out .ret [.Ψ [.agg [.v (ι 1),.v (ι 0)],.v (.bool ε)]] (cF (aj a7 (x+1)) (aj a7 (y+0)) 0 d tp):=by kernel_rfl
def ad9(x y:Z)(d:κ)(tp:ae):ad θ fF K 100 gn [.ptr 0 0 0 0,.v (.int .u8 101)] (cF x y 1 d tp) (af 1)=.out .ret [.Ψ [.agg [.v (ι 0),.v (ι 1)],.v (.bool ε)]] (cF (aj a7 (x+0)) (aj a7 (y+1)) 1 d tp):=by kernel_rfl
def ad_(x y:Z)(d:κ)(tp:ae):ad θ fF K 100 gn [.ptr 0 0 0 0,.v (.int .u8 101)] (cF x y 2 d tp) (af 1)=.out .ret [.Ψ [.agg [.v (ι (-1)),.v (ι 0)],.v (.bool ε)]] (cF (aj a7 (x+(-1))) (aj a7 (y+0)) 2 d tp):=by kernel_rfl
def ad'(x y:Z)(d:κ)(tp:ae):ad θ fF K 100 gn [.ptr 0 0 0 0,.v (.int .u8 101)] (cF x y 3 d tp) (af 1)=.out .ret [.Ψ [.agg [.v (ι 0),.v (ι (-1))],.v (.bool ε)]] (cF (aj a7 (x+0)) (aj a7 (y+(-1))) 3 d tp):=by kernel_rfl
def aea(x y:Z)(d:κ)(tp:ae):ad θ fF K 100 gn [.ptr 0 0 0 0,.v (.int .u8 110)] (cF x y 0 d tp) (af 1)=.out .ret [.Ψ [.agg [.v (ι 0),.v (ι 1)],.v (.bool ε)]] (cF (aj a7 (x+0)) (aj a7 (y+1)) 0 d tp):=by kernel_rfl
def aeb(x y:Z)(d:κ)(tp:ae):ad θ fF K 100 gn [.ptr 0 0 0 0,.v (.int .u8 110)] (cF x y 1 d tp) (af 1)=.out .ret [.Ψ [.agg [.v (ι (-1)),.v (ι 0)],.v (.bool ε)]] (cF (aj a7 (x+(-1))) (aj a7 (y+0)) 1 d tp):=by kernel_rfl
def aec(x y:Z)(d:κ)(tp:ae):ad θ fF K 100 gn [.ptr 0 0 0 0,.v (.int .u8 110)] (cF x y 2 d tp) (af 1)=.out .ret [.Ψ [.agg [.v (ι 0),.v (ι (-1))],.v (.bool ε)]] (cF (aj a7 (x+0)) (aj a7 (y+(-1))) 2 d tp):=by kernel_rfl
def aed(x y:Z)(d:κ)(tp:ae):ad θ fF K 100 gn [.ptr 0 0 0 0,.v (.int .u8 110)] (cF x y 3 d tp) (af 1)=.out .ret [.Ψ [.agg [.v (ι 1),.v (ι 0)],.v (.bool ε)]] (cF (aj a7 (x+1)) (aj a7 (y+0)) 3 d tp):=by kernel_rfl
def aeq(x y:Z)(d:κ)(tp:ae):ad θ fF K 100 gn [.ptr 0 0 0 0,.v (.int .u8 119)] (cF x y 0 d tp) (af 1)=.out .ret [.Ψ [.agg [.v (ι (-1)),.v (ι 0)],.v (.bool ε)]] (cF (aj a7 (x+(-1))) (aj a7 (y+0)) 0 d tp):=by kernel_rfl
def aer(x y:Z)(d:κ)(tp:ae):ad θ fF K 100 gn [.ptr 0 0 0 0,.v (.int .u8 119)] (cF x y 1 d tp) (af 1)=.out .ret [.Ψ [.agg [.v (ι 0),.v (ι (-1))],.v (.bool ε)]] (cF (aj a7 (x+0)) (aj a7 (y+(-1))) 1 d tp):=by kernel_rfl
def aes(x y:Z)(d:κ)(tp:ae):ad θ fF K 100 gn [.ptr 0 0 0 0,.v (.int .u8 119)] (cF x y 2 d tp) (af 1)=.out .ret [.Ψ [.agg [.v (ι 1),.v (ι 0)],.v (.bool ε)]] (cF (aj a7 (x+1)) (aj a7 (y+0)) 2 d tp):=by kernel_rfl
def aet(x y:Z)(d:κ)(tp:ae):ad θ fF K 100 gn [.ptr 0 0 0 0,.v (.int .u8 119)] (cF x y 3 d tp) (af 1)=.out .ret [.Ψ [.agg [.v (ι 0),.v (ι 1)],.v (.bool ε)]] (cF (aj a7 (x+0)) (aj a7 (y+1)) 3 d tp):=by kernel_rfl
def aee(x y:Z)(d:κ)(tp:ae):ad θ fF K 100 gn [.ptr 0 0 0 0,.v (.int .u8 115)] (cF x y 0 d tp) (af 1)=.out .ret [.Ψ [.agg [.v (ι 0),.v (ι (-1))],.v (.bool ε)]] (cF (aj a7 (x+0)) (aj a7 (y+(-1))) 0 d tp):=by kernel_rfl
def aef(x y:Z)(d:κ)(tp:ae):ad θ fF K 100 gn [.ptr 0 0 0 0,.v (.int .u8 115)] (cF x y 1 d tp) (af 1)=.out .ret [.Ψ [.agg [.v (ι 1),.v (ι 0)],.v (.bool ε)]] (cF (aj a7 (x+1)) (aj a7 (y+0)) 1 d tp):=by kernel_rfl
def aeg(x y:Z)(d:κ)(tp:ae):ad θ fF K 100 gn [.ptr 0 0 0 0,.v (.int .u8 115)] (cF x y 2 d tp) (af 1)=.out .ret [.Ψ [.agg [.v (ι 0),.v (ι 1)],.v (.bool ε)]] (cF (aj a7 (x+0)) (aj a7 (y+1)) 2 d tp):=by kernel_rfl
def aeh(x y:Z)(d:κ)(tp:ae):ad θ fF K 100 gn [.ptr 0 0 0 0,.v (.int .u8 115)] (cF x y 3 d tp) (af 1)=.out .ret [.Ψ [.agg [.v (ι (-1)),.v (ι 0)],.v (.bool ε)]] (cF (aj a7 (x+(-1))) (aj a7 (y+0)) 3 d tp):=by kernel_rfl
def aeu{b t x y:Z}{d:κ}{tp:ae}(g:G' b=ε)(i:0<=t/\t<4)(j: -1000000<=x/\x<=1000000)(k: -1000000<=y/\y<=1000000):aC (ad θ fF K 100 gn [.ptr 0 0 0 0,.v (.int .u8 b)] (cF x y t d tp) (af 1)) (doR b x y t d tp):=by
 have e:b=117\/b=100\/b=116\/b=101\/b=110\/b=119\/b=115:=by unfold G' Bg at g;simpa only[Bool.or_eq_true,ks]using g
 have f:t=0\/t=1\/t=2\/t=3:=by omega
 have a:∀z,-1<=z/\z<=1->aj a7 (x+z)=x+z:=λz h=>bR (by omega)
 have c:∀z,-1<=z/\z<=1->aj a7 (y+z)=y+z:=λz h=>bR (by omega)
 have l:∀z:Z,cF z y t d tp=cF z y t d tp:=λ_=>rfl
 rcases e with rfl|rfl|rfl|rfl|rfl|rfl|rfl<;>rcases f with rfl|rfl|rfl|rfl
 ·rw[aem];exact Φ ⟨rfl,rfl,by rw[show k_ 117 0=0 from rfl,show lc 117 0=0 from rfl,g7,g7];rfl⟩
 ·rw[aen];exact Φ ⟨rfl,rfl,by rw[show k_ 117 1=0 from rfl,show lc 117 1=0 from rfl,g7,g7];rfl⟩
 ·rw[aeo];exact Φ ⟨rfl,rfl,by rw[show k_ 117 2=0 from rfl,show lc 117 2=0 from rfl,g7,g7];rfl⟩
 ·rw[aep];exact Φ ⟨rfl,rfl,by rw[show k_ 117 3=0 from rfl,show lc 117 3=0 from rfl,g7,g7];rfl⟩
 ·rw[ad4];exact Φ ⟨rfl,rfl,by rw[show k_ 100 0=0 from rfl,show lc 100 0=0 from rfl,g7,g7];rfl⟩
 ·rw[ad5];exact Φ ⟨rfl,rfl,by rw[show k_ 100 1=0 from rfl,show lc 100 1=0 from rfl,g7,g7];rfl⟩
 ·rw[ad6];exact Φ ⟨rfl,rfl,by rw[show k_ 100 2=0 from rfl,show lc 100 2=0 from rfl,g7,g7];rfl⟩
 ·rw[ad7];exact Φ ⟨rfl,rfl,by rw[show k_ 100 3=0 from rfl,show lc 100 3=0 from rfl,g7,g7];rfl⟩
 ·rw[aei];exact Φ ⟨rfl,rfl,by rw[show k_ 116 0=0 from rfl,show lc 116 0=0 from rfl,g7,g7];rfl⟩
 ·rw[aej];exact Φ ⟨rfl,rfl,by rw[show k_ 116 1=0 from rfl,show lc 116 1=0 from rfl,g7,g7];rfl⟩
 ·rw[aek];exact Φ ⟨rfl,rfl,by rw[show k_ 116 2=0 from rfl,show lc 116 2=0 from rfl,g7,g7];rfl⟩
 ·rw[ael];exact Φ ⟨rfl,rfl,by rw[show k_ 116 3=0 from rfl,show lc 116 3=0 from rfl,g7,g7];rfl⟩
 ·rw[ad8,a _ (by omega),c _ (by omega)];exact Φ ⟨rfl,rfl,rfl⟩
 ·rw[ad9,a _ (by omega),c _ (by omega)];exact Φ ⟨rfl,rfl,rfl⟩
 ·rw[ad_,a _ (by omega),c _ (by omega)];exact Φ ⟨rfl,rfl,rfl⟩
 ·rw[ad',a _ (by omega),c _ (by omega)];exact Φ ⟨rfl,rfl,rfl⟩
 ·rw[aea,a _ (by omega),c _ (by omega)];exact Φ ⟨rfl,rfl,rfl⟩
 ·rw[aeb,a _ (by omega),c _ (by omega)];exact Φ ⟨rfl,rfl,rfl⟩
 ·rw[aec,a _ (by omega),c _ (by omega)];exact Φ ⟨rfl,rfl,rfl⟩
 ·rw[aed,a _ (by omega),c _ (by omega)];exact Φ ⟨rfl,rfl,rfl⟩
 ·rw[aeq,a _ (by omega),c _ (by omega)];exact Φ ⟨rfl,rfl,rfl⟩
 ·rw[aer,a _ (by omega),c _ (by omega)];exact Φ ⟨rfl,rfl,rfl⟩
 ·rw[aes,a _ (by omega),c _ (by omega)];exact Φ ⟨rfl,rfl,rfl⟩
 ·rw[aet,a _ (by omega),c _ (by omega)];exact Φ ⟨rfl,rfl,rfl⟩
 ·rw[aee,a _ (by omega),c _ (by omega)];exact Φ ⟨rfl,rfl,rfl⟩
 ·rw[aef,a _ (by omega),c _ (by omega)];exact Φ ⟨rfl,rfl,rfl⟩
 ·rw[aeg,a _ (by omega),c _ (by omega)];exact Φ ⟨rfl,rfl,rfl⟩
 ·rw[aeh,a _ (by omega),c _ (by omega)];exact Φ ⟨rfl,rfl,rfl⟩
def ss(P:O)(p:oP)(d:κ)(w:υ):Prop:=w.heap[P]?=γ (.cells #[ι p.x,ι p.y,ι p.t,.bool d] 167 (0,0))
def alR:∀(k:O),k<256->jN (mQ k)=ε->G' k=ε/\∀t:O,t<4->(eP ⟨0,0,t⟩ (mQ k)).x=k_ k t/\(eP ⟨0,0,t⟩ (mQ k)).y=lc k t/\((eP ⟨0,0,t⟩ (mQ k)).t:Z)=B_ k t:=by decide+kernel
def alQ(x y:Z)(t:O)(b:ψ):eP ⟨x,y,t⟩ b=⟨x+(eP ⟨0,0,t⟩ b).x,y+(eP ⟨0,0,t⟩ b).y,(eP ⟨0,0,t⟩ b).t⟩:=by
 unfold eP;cases b==117||b==100 with
 |true=>simp
 |false=>
  cases b==116 with
  |true=>simp
  |false=>simp
def alT{b:ψ}(h:jN b=ε)(p:oP)(e:p.t<4):G' b.toNat=ε/\eP p b=⟨p.x+k_ b.toNat p.t,p.y+lc b.toNat p.t,(B_ b.toNat p.t).toNat⟩/\((B_ b.toNat p.t).toNat:Z)=B_ b.toNat p.t:=by
 obtain⟨f,d⟩:=alR b.toNat b.toNat_lt (by rwa [aaN]);rw[aaN]at d;obtain⟨a,g,c⟩:=d p.t e;refine⟨f,?_,?_⟩
 ·obtain⟨x,y,t⟩:=p
  rw[alQ,a,g,<-c];simp
 ·rw[<-c];simp
def acp{P:O}{p:oP}{d:κ}{b:ψ}{w:υ}(r:ss P p d w)(B:aY (cj w P) w)(a:jN b=ε)(C:p.t<4)(D: -1000000<=p.x/\p.x<=1000000)(G: -1000000<=p.y/\p.y<=1000000):aH θ 158 #[.pointer (γ ⟨P,0,ζ⟩),.int .u8 b.toNat] w λe w'=>∃v H,e=.returned v/\ss P (eP p b) H w'/\Fr (cj w P) w w':=by
 obtain⟨I,L,N⟩:=alT a p C;have g:P<w.heap.size:=(cm.1 r).1;have c:∀i b,(λi:O=>if i=0 then γ (⟨P,0,4⟩:Bk)else ζ) i=γ b->i=0/\b=⟨P,0,4⟩:=λi b a=>by
  simp only at a;split at a
  ·cases a;exact⟨by assumption,rfl⟩
  ·cases a
 have h:(λi:O=>if i=0 then γ (⟨P,0,4⟩:Bk)else ζ) 0=γ ⟨P,0,4⟩:=rfl;generalize(λi:O=>if i=0 then γ (⟨P,0,4⟩:Bk)else ζ)=s at*;refine(nS (vals:=[.pointer (γ ⟨P,0,ζ⟩),.int .u8 b.toNat]) (M:=cj w P) (ν:=s) af3 mixed enters func158 (dq _) (λk Q=>.inl Q) (aeu (b:=b.toNat) (t:=p.t) (x:=p.x) (y:=p.y) (d:=d) (tp:=167) I ⟨by omega,by omega⟩ D G).out ⟨?_,?_,trivial⟩ ⟨λi=>?_,λi j b X m _ _ R S=>?_,λi b _ a=>?_,λi b a=>?_,B⟩ (λi b a=>?_)).mono ?_
 ·simp only[VR]
  exact⟨_,h,rfl⟩
 ·simp only[VR]
 ·match i with
  |0=>exact⟨_,[ι p.x,ι p.y,ι p.t,.bool d],h,rfl,r,rfl,rfl,rfl,rfl,trivial⟩
  |i+1=>trivial
 ·exact aO ((c _ _ R).1.trans (c _ _ S).1.symm) m
 ·rw[(c _ _ a).2];exact .inr rfl
 ·rw[(c _ _ a).2];exact g
 ·rw[(c _ _ a).1];exact nI
 ·rintro e w' ⟨v,av,H2,T,rfl,⟨_,_,rfl⟩,hv,n,o,q,_⟩
  refine⟨v,Vq b.toNat d,rfl,?_,o⟩;have z:=n.br 0;simp only[cF,List.getD_cons_zero]at z;obtain⟨bk,l,A,g2,U,f⟩:=z;rw[q _ _ h]at A;cases A
  match l,f with
  |[v1,v2,v3,v4],f=>simp only[ax,VR,aa]at f;obtain⟨rfl,rfl,rfl,rfl⟩:=f;unfold ss;rw[L];simp only[N];exact U
def th(x:χ (E ψ)):τ:=match x with
 |some T=>.tuple #[.agg #[ι (cU T).x,ι (cU T).y],ι (cU T).t,.bool ε]
 |none=>.tuple #[.agg #[ι 0,ι 0],ι 0,.bool η]
def C7{s T:E ψ}(h:i7 s=γ T):T.all jN=ε/\T.length<=500:=by
 unfold i7 at h;split at h
 ·split at h
  ·rename_i x a
   cases h;exact⟨afn a,Sw a⟩
  ·cases h
 ·cases h
def YI{A:O}{x y u v:τ}{t:ae}{w:υ}(h:w.heap[A]?=γ (.cells #[x,y] t (0,0))):((w.setCell ⟨A,0,ζ⟩ u).setCell ⟨A,1,ζ⟩ v).heap[A]?=γ (.cells #[u,v] t (0,0)):=by
 have a:(w.setCell ⟨A,0,ζ⟩ u).heap[A]?=γ (.cells #[u,y] t (0,0)):=by simp[l9,zn,h]
 generalize w.setCell ⟨A,0,ζ⟩ u=W at*;simp[l9,zn,a]
def Df{A:O}{x y:τ}{t:ae}{w:υ}(h:w.heap[A]?=γ (.cells #[x,y] t (0,0))):w.cell? ⟨A,0,ζ⟩=γ x/\w.cell? ⟨A,1,ζ⟩=γ y/\w.frozen? ⟨A,0,ζ⟩=η/\w.frozen? ⟨A,1,ζ⟩=η:=
 ⟨by rw[gR w A 0 _ _ (0,0) h];rfl,by rw[gR w A 1 _ _ (0,0) h];rfl,se w A 0 _ _ h,se w A 1 _ _ h⟩
def YH{A:O}{u v:τ}{w a:υ}(f:Fr (aq a) a w)(c:a.heap.size<=A):Fr (aq a) a ((w.setCell ⟨A,0,ζ⟩ u).setCell ⟨A,1,ζ⟩ v):=by refine f.trans ⟨rfl,rfl,rfl,by simp[l9],λk _ b=>?_⟩;have b:k<a.heap.size:=fY.1 b;rw[kj _ _ _ _ (show k≠A by omega),kj _ _ _ _ (show k≠A by omega)]
def acK(s:ρ){w:υ}(Q:aY (aq w) w):aH θ 85 #[.string s] w (f_ w (th (i7 s.data.toList))):=by
 have mixed:=mixed;obtain⟨W0,A⟩:∃W0,w.alloc (.cells #[ι 0,ι 0] 82)=W0:=⟨_,rfl⟩;have f0:Fr (aq w) w W0:=A▸(eR (fk w _ ζ) λk e=>by cases e);have B:W0.heap[w.heap.size]?=γ (.cells #[ι 0,ι 0] 82 (0,0)):=A▸l8 _ _;have f:=acR s (Q.fh f0);have n:=λT=>C7 (s:=s.data.toList) (T:=T)
 generalize i7 s.data.toList=q at*;cases q with
 |none=>
  clear n Q;rw[show N1 ζ=.tuple #[.string ⟨#[]⟩,.bool η]from rfl]at f
  go_enter func85,ntmps85
  go_wp2_with fail
  refine f.mono ?_;rintro e p ⟨rfl,L⟩;have y:=(L.block _ (cm.1 B).1 (fY.2 (cm.1 B).1)).trans B;obtain⟨b1,b2,b3,b4⟩:=Df y;obtain⟨r1,r2,_,_⟩:=Df (YI y (u:=ι 0) (v:=ι 0));have z:=YH (dh f0 L) (aR w.heap.size) (u:=ι 0) (v:=ι 0);clear f
  go_wp2_with fail
  refine fZ (v:=.tuple #[.agg #[ι 0,ι 0],ι 0,.bool η]) ?_ rfl ⟨rfl,z⟩;simp[results,results85,go_sem,r1,r2]
 |some T=>
  obtain⟨hT,hT5⟩:=n T rfl;clear n;rw[show N1 (γ T)=.tuple #[.string ⟨T.toArray⟩,.bool ε]from rfl]at f;have S:(a8 T.toArray).size=T.length:=mq T;have t9:θ.underlying 9=γ .string:=by kernel_rfl
  have U:θ.underlying 32=γ (.slice 5):=by kernel_rfl
  have t5:θ.underlying 5=γ (.int .u8):=by kernel_rfl
  go_enter func85,ntmps85
  go_wp2_with fail
  refine f.mono ?_;rintro e p ⟨rfl,L⟩;have y:=(L.block _ (cm.1 B).1 (fY.2 (cm.1 B).1)).trans B;clear f;obtain⟨g,o⟩:∃g,g=p.alloc (.cells #[ι 0,ι 0,ι 0,.bool η] 167):=⟨_,rfl⟩;have f2:Fr (aq p) p g:=o▸(eR (fk p _ ζ) λk e=>by cases e);have p2:ss p.heap.size oi η g:=o▸l8 _ _;have z2:g.heap.size=p.heap.size+1:=by rw[o];simp
  have C:=Lib.run_convert_string_bytes g 9 32 5 ⟨T.toArray⟩ t9 U t5;have f3:Fr (aq g) g (wb g 5 ⟨T.toArray⟩):=SF g _ _;have l:∀j,j<T.length->(wb g 5 ⟨T.toArray⟩).cell? ⟨g.heap.size,j,ζ⟩=γ (.int .u8 (T.getD j 0).toNat):=λj hj=>Lib.bytesWorld_cell g _ ⟨T.toArray⟩ j (by rw[S];exact hj)
  have hG:g.heap.size<(wb g 5 ⟨T.toArray⟩).heap.size:=by rw[Lib.bytesWorld_size];omega
  rw[S]at C;generalize wb g 5 ⟨T.toArray⟩=W at*;generalize grownCap g T.length 0 5=cap at*;have pP:=(f3.block _ (by omega) (fY.2 (by omega:p.heap.size<g.heap.size))).trans p2;have aA:=((dh f2 f3).block _ (eE (cm.1 y).1 (aR _)) (fY.2 (cm.1 y).1)).trans y;have fW:=dh (dh (dh f0 L) f2) f3;have hAP:w.heap.size<p.heap.size:=(cm.1 y).1;have u22:=run_underlying U;generalize hGe:g.heap.size=G at*;generalize hPe:p.heap.size=P at*;clear f0 L f2 f3 B y p2
  go_wp2_with fail
  rw[<-o,C];have hPG:P<G:=by omega
  clear C o A hGe hPe z2
  go_wp2
  go_loopw [23] (λi wr=>∃(k:O)(d:κ),k<=T.length/\i=.int .i64 k/\ss P ((T.take k).foldl eP oi) d wr/\Fr (aq w) w wr/\wr.heap[w.heap.size]?=γ (.cells #[ι 0,ι 0] 82 (0,0))/\G<wr.heap.size/\∀j,j<T.length->wr.cell? ⟨G,j,ζ⟩=γ (.int .u8 (T.getD j 0).toNat)) (λi _=>T.length-(intOf i).toNat)
  case atStart=>exact⟨0,η,eF _,rfl,pP,fW,aA,hG,l⟩
  case round=>
   obtain⟨k,d,hk,rfl,D,z,M,hg,hc⟩:=hrel;by_cases r:k<T.length
   ·have hck:=hc k r
    have hb:T.getD k 0=T[k]:=by simp[r]
    have f:jN T[k]=ε:=bX.1 hT _ (ko r);have X:(T.take (k+1)).foldl eP oi=eP ((T.take k).foldl eP oi) T[k]:=by rw[wl r,zz];rfl
    have H:=MV (T.take k) oi 0 (by decide);rw[oG]at H;have hdo:=acp D (Yj Q z (by omega)) f H.2.2 (by omega) (by omega);rw[hb]at hck;have hRP:∃c fz,wr.heap[P]?=γ (.cells c 167 fz):=⟨_,_,D⟩;have hPz:P<wr.heap.size:=(cm.1 D).1;have hAz:w.heap.size<wr.heap.size:=(cm.1 M).1;have next:∀t d',ss P (eP ((T.take k).foldl eP oi) T[k]) d' t->Fr (cj wr P) wr t->∃(k':O)(d:κ),k'<=T.length/\jf .i64 ((k:Z)+1)=.int .i64 k'/\ss P ((T.take k').foldl eP oi) d t/\Fr (aq w) w t/\t.heap[w.heap.size]?=γ (.cells #[ι 0,ι 0] 82 (0,0))/\G<t.heap.size/\∀j,j<T.length->t.cell? ⟨G,j,ζ⟩=γ (.int .u8 (T.getD j 0).toNat):=λt d' h1 N=>by refine⟨k+1,d',by omega,by simp,X▸h1,z.trans (N.mono λi _ h=>ua h (λh=>cD z.size h) λh=>by omega),(N.block _ hAz λh=>ua h (λh=>by omega) λh=>by omega).trans M,eE hg N.size,λj hj=>?_⟩;exact(nL (a:=⟨G,j,ζ⟩) (N.block G hg λh=>ua h (λh=>by omega) λh=>by omega)).trans (hc j hj)
    have hki:(k:Z)<T.length:=by omega
    have hTi:(T.length:Z)<=500:=by omega
    generalize T[k]=b at*;generalize(T.take k).foldl eP oi=I at*;clear hc f X H hb hT l D z M hg hRP aA pP fW Q hAz hPz hG hAP hPG
    go_wp2_with (go_at_call 158;refine hdo.mono ?_;rintro e t ⟨v,d',rfl,h1,N⟩)
    exact⟨next _ _ h1 N,by simp[intOf];omega⟩
   ·have hkn:k=T.length:=by omega
    subst hkn;rw[DF]at D;have x:ss P (cU T) d wr.drew:=D;have ha2:wr.drew.heap[w.heap.size]?=γ (.cells #[ι 0,ι 0] 82 (0,0)):=M;have c0:wr.drew.cell? ⟨P,0,ζ⟩=γ (ι (cU T).x):=by rw[gR wr.drew P 0 _ _ (0,0) x];rfl
    have c1:wr.drew.cell? ⟨P,1,ζ⟩=γ (ι (cU T).y):=by rw[gR wr.drew P 1 _ _ (0,0) x];rfl
    have c2:wr.drew.cell? ⟨P,2,ζ⟩=γ (ι (cU T).t):=by rw[gR wr.drew P 2 _ _ (0,0) x];rfl
    obtain⟨b1,b2,b3,b4⟩:=Df ha2;obtain⟨r1,r2,_,_⟩:=Df (YI M (u:=ι (cU T).x) (v:=ι (cU T).y));have m:=YH z (aR w.heap.size) (u:=ι (cU T).x) (v:=ι (cU T).y);have fr4:Fr (aq w) w ((wr.setCell ⟨w.heap.size,0,ζ⟩ (ι (cU T).x)).setCell ⟨w.heap.size,1,ζ⟩ (ι (cU T).y)).drew:=⟨m.os,m.tape,m.output,m.size,m.block⟩;have hAPn:w.heap.size≠P:=by omega
    have hPAn:P≠w.heap.size:=by omega
    have c0':wr.cell? ⟨P,0,ζ⟩=γ (ι (cU T).x):=c0;have c1':wr.cell? ⟨P,1,ζ⟩=γ (ι (cU T).y):=c1;have c2':wr.cell? ⟨P,2,ζ⟩=γ (ι (cU T).t):=c2;have b1':wr.cell? ⟨w.heap.size,0,ζ⟩=γ (ι 0):=b1;have b2':wr.cell? ⟨w.heap.size,1,ζ⟩=γ (ι 0):=b2;have b3':wr.frozen? ⟨w.heap.size,0,ζ⟩=η:=b3;have b4':wr.frozen? ⟨w.heap.size,1,ζ⟩=η:=b4;clear hc hT l D z M hg aA pP fW Q x ha2 m hG;have hpe:Hu (.tuple #[.agg #[ι (cU T).x,ι (cU T).y],ι (cU T).t,.bool ε])=.returned (th (γ T)):=rfl;generalize th (γ T)=R at*;generalize cU T=I at*
    go_wp2_with fail
    go_region_held3 (λw'=>w'.cell? ⟨P,0,ζ⟩=γ (ι I.x)/\w'.cell? ⟨P,1,ζ⟩=γ (ι I.y)/\w'.cell? ⟨P,2,ζ⟩=γ (ι I.t)) (go_keep) (fail)
    go_wp2_with fail
    refine fZ (v:=.tuple #[.agg #[ι I.x,ι I.y],ι I.t,.bool ε]) ?_ rfl ⟨hpe,fr4⟩;simp[results,results85,go_sem,r1,r2]
def Tl(g:ρ->O->ρ)(n:ρ->O)(k:ρ->κ)(a:O->(O->E τ)->dW)(b:O->(O->E τ)->κ):aE:=
 ext (ext g0 116 (am [.val] (I9 g n k))) 117 (yV [] (Jd a b))
def arL(g:ρ->O->ρ)(n:ρ->O)(k:ρ->κ)(b:O->(O->E τ)->dW)(c:O->(O->E τ)->κ)(s:ρ):let a:=(b (n s) λj=>[cZ (g s j)]);ad θ (Tl g n k b c) K 100 f57 [.v (.string s)] [] ed
 =bif !k s then rO [AV.Ψ [AV.agg [vI 0,vI 0],vI 0,vB η]] []else Ω [ai (n s) (n s),c (n s) λj=>[cZ (g s j)]] (rO [AV.Ψ [AV.agg [vI (dW.x a),vI (dW.y a)],vI (dW.t a),vB ε]] []):=by intros;kernel_rfl
def alU(s:ρ):i7 s.data.toList=bif (i4 s).r.isSome then γ (i4 s).T else ζ:=by
 have a:s.data.toList.length=s.size:=by rw[lx];rfl
 unfold i7 i4;rw[a,ES];by_cases h:s.size<=400
 ·rw[aP h,aP h,afk λ_=>RG _ _]
  cases(dE η (cW 32 s.data.toList) []).r with
  |none=>rfl
  |some r=>rfl
 ·rw[bi h,bi h]
  rfl
def aoB(T:E ψ):cX (strs (λj=>[cZ (c8 T j)]) T.length)=T.map ([·]):=by
 apply List.ext_getElem
 ·simp[strs]
 ·intro i b a
  simp[strs,y',c8,cq,show i<T.length by simpa using a]
def ajr{T:E ψ}(h:T.all jN=ε)(a:T.length<=500):vo T.length (λj=>[cZ (c8 T j)])=ε/\me T.length (λj=>[cZ (c8 T j)])=T:=by
 unfold vo me;rw[aoB];refine⟨?_,?_⟩
 ·rw[show nP T.length (λj=>[cZ (c8 T j)])=ε from bX.2 λ_ _=>rfl,dD,show Θ T.length 999=ε from by rw[aT];omega,iM,List.all_map]
  exact h
 ·induction T with
  |nil=>rfl
  |cons b T c=>rw[eD,zy,c (by rw[gl,aM]at h;exact h.2) (by rw[cn]at a;omega)];rfl
def Eh(pv:ρ->τ):E τ->χ (τ×E κ)
 |[.string s]=>γ (pv s,[])
 |_=>ζ
def yo(s:ρ):τ:=th (i7 s.data.toList)
def ak5:au θ 57 (aS (Eh yo)):=by
 refine en (n:=100) (Γ:=Tl vr rH rG tD vo) (az (az bt akR) ak4) func57 rfl λq x r a t=>?_
 unfold Eh at a;split at a
 ·rename_i s
  simp only[ar,cG]at a;obtain⟨rfl,rfl⟩:=a;have e:=arL vr rH rG tD vo s;simp only[eD,kp];rw[e]
  suffices h:aC _ (nO (yo s))from⟨h.out⟩
  have b:=alU s;refine ay (λc=>?_) λc=>?_
  ·have c:(i4 s).r.isSome=η:=by simpa[rG]using c
   rw[c,a_]at b;unfold yo;rw[b];exact Φ ⟨_,rfl,rfl⟩
  ·have c:(i4 s).r.isSome=ε:=by simpa[rG]using c
   rw[c,aZ]at b;obtain⟨f,g⟩:=C7 b;obtain⟨i,k⟩:=ajr f g;have d:tD (rH s) (λj=>[cZ (vr s j)])=lr fE (i4 s).T:=by unfold tD;rw[show me (rH s) (λj=>[cZ (vr s j)])=(i4 s).T from k]
   obtain⟨l,m,o⟩:=Xf fE (i4 s).T vx oi 0 (by omega) (by decide) ⟨rfl,rfl,rfl⟩;rw[d];refine ag (by simp only[F,ah,aa];exact⟨l5 _,i⟩) ?_;rw[show(lr fE (i4 s).T).x=(cU (i4 s).T).x from l,show(lr fE (i4 s).T).y=(cU (i4 s).T).y from m,show(lr fE (i4 s).T).t=((cU (i4 s).T).t:Z)from o];unfold yo;rw[b];exact Φ ⟨_,rfl,rfl⟩
 ·cases a
def rJ(L:E Wh)(r:E ψ):χ (E Wh×E ψ):=(i7 r).map λT=>(L,fL [(cU T).x,(cU T).y,((cU T).t:Z)])
def acT(x y z:Z)(w:υ)(b:aY (aq w) w)(h:∀n∈ [x,y,z],-9223372036854775808<=n/\n<=9223372036854775807):aH θ 75 #[.slice (γ ⟨w.heap.size,0,ζ⟩) 3 3] (w.alloc (.cells #[ι x,ι y,ι z] 3)) (f_ (w.alloc (.cells #[ι x,ι y,ι z] 3)) (.string ⟨(fL [x,y,z]).toArray⟩)):=by
 have f:Fr (aq w) w (w.alloc (.cells #[ι x,ι y,ι z] 3)):=eR (fk w _ ζ) λk e=>by cases e
 have:=EK [x,y,z] w.heap.size 0 3 _ (b.fh f) (by simp) (aR _) (by simp) h (λj a=>by
  have a:j=0\/j=1\/j=2:=by simp at a;omega
  unfold pI;simp only;rw[l8];rcases a with rfl|rfl|rfl<;>rfl)
 exact this
def adj:jg 35 rJ:=λ{D L} s {w} p r z C=>by
 have mixed:=mixed;have n:=acK s r.nw;have A:=λa (f:Fr (aq w) w a)=>de.die (L:=L) p f
 have i:=λa (t:E ψ)(f:Fr (aq w) w a)=>de.CF (t:=t) p z f
 have g:=λT=>C7 (s:=s.data.toList) (T:=T)
 have h:=r.nw;unfold rJ;clear p r z C;generalize i7 s.data.toList=q at*;cases q with
 |none=>
  clear i g h;rw[show th ζ=.tuple #[.agg #[ι 0,ι 0],ι 0,.bool η]from rfl]at n
  go_enter func35,ntmps35
  go_wp2_with (first|(go_at_call 85;refine n.mono ?_;rintro e a ⟨rfl,d⟩)|(go_at_call 74;refine(tc _).mono ?_;rintro e j ⟨rfl,rfl⟩))
  exact⟨rfl,A _ (dh d (eR (fk a _ ζ) λk e=>by cases e))⟩
 |some T=>
  have G:=MW T;have H:=(g T rfl).2;rw[show th (γ T)=.tuple #[.agg #[ι (cU T).x,ι (cU T).y],ι (cU T).t,.bool ε]from rfl]at n;clear A g
  replace i:=λa f=>i a (fL [(cU T).x,(cU T).y,((cU T).t:Z)]) f
  rw[zJ];have B:=λ(W:υ)(f:Fr (aq w) w W)=>acT (cU T).x (cU T).y ((cU T).t:Z) W (h.fh f) (by simp only[dw,kq,nM,forall_eq_or_imp,forall_eq];omega)
  generalize fL [(cU T).x,(cU T).y,((cU T).t:Z)]=u at*;generalize(cU T).x=b at*;generalize(cU T).y=c at*;generalize((cU T).t:Z)=o at*;have v:∀a j,Fr (aq w) w a->Fr (aq ((a.alloc (.cells #[ι b,ι c] 82)).alloc (.cells #[ι b,ι c,ι o] 3))) ((a.alloc (.cells #[ι b,ι c] 82)).alloc (.cells #[ι b,ι c,ι o] 3)) j->de D L (γ (L,u)) w (.returned (.string ⟨u.toArray⟩)) j:=λa j d I=>i _ (dh (dh (dh d (eR (fk a _ ζ) λk e=>by cases e)) (eR (fk _ _ ζ) λk e=>by cases e)) I)
  have l:∀a,Fr (aq w) w a->Fr (aq w) w (a.alloc (.cells #[ι b,ι c] 82)):=λa d=>dh d (eR (fk a _ ζ) λk e=>by cases e)
  have m:∀a:υ,(a.alloc (.cells #[ι b,ι c] 82)).heap[a.heap.size]?=γ (.cells #[ι b,ι c] 82 (0,0)):=λa=>l8 a _
  have x:=λa=>Df (m a)
  clear m;have y:∀a:υ,Fr (aq w) w a->aH θ 75 #[.slice (γ ⟨a.heap.size+1,0,ζ⟩) 3 3] ((a.alloc (.cells #[ι b,ι c] 82)).alloc (.cells #[ι b,ι c,ι o] 3)) (f_ ((a.alloc (.cells #[ι b,ι c] 82)).alloc (.cells #[ι b,ι c,ι o] 3)) (.string ⟨u.toArray⟩)):=λa d=>by have:=B _ (l a d);rw[show(a.alloc (.cells #[ι b,ι c] 82)).heap.size=a.heap.size+1 from Array.size_push _]at this;exact this
  clear i h G H B l
  go_enter func35,ntmps35
  go_wp2_with (first|(go_at_call 85;refine n.mono ?_;rintro e a ⟨rfl,d⟩;obtain⟨N,P,Q,R⟩:=x a)|(go_at_call 74;refine(td _).mono ?_;rintro e j ⟨rfl,rfl⟩))
  refine(y a d).mono ?_;rintro e S ⟨rfl,M⟩
  go_wp2_with fail
  go_ret
  exact v _ _ d M
def Ei(a b c:ρ->Z)(d:ρ->κ):E τ->χ (τ×E κ)
 |[.string s]=>γ (.tuple ⟨[.agg ⟨[ι (a s),ι (b s)]⟩,ι (c s),.bool (d s)]⟩,[])
 |_=>ζ
def Cq(s:ρ):oP:=match i7 s.data.toList with
 |some T=>cU T
 |none=>oi
def yu(s:ρ):Z:=(Cq s).x
def yw(s:ρ):Z:=(Cq s).y
def yr(s:ρ):Z:=((Cq s).t:Z)
def yp(s:ρ):κ:=(i7 s.data.toList).isSome
def alP(s:ρ):th (i7 s.data.toList)=.tuple ⟨[.agg ⟨[ι (yu s),ι (yw s)]⟩,ι (yr s),.bool (yp s)]⟩:=by
 unfold yu yw yr yp Cq;cases i7 s.data.toList with
 |none=>rfl
 |some T=>rfl
def aa3:Ei yu yw yr yp=Eh yo:=by
 funext a
 unfold Ei Eh yo;split
 ·rename_i s
  show γ _=γ (th (i7 s.data.toList),[])
  rw[alP]
 ·rename_i h
  first
  |rfl
  |(split
    ·exact aO rfl (h _)
    ·rfl)
def akU:au θ 57 (aS (Ei yu yw yr yp)):=by rw[aa3];exact ak5
abbrev YT:ρ:=⟨#[97,116]⟩
abbrev YV:ρ:=⟨#[103,114,105,100]⟩
abbrev YS:ρ:=⟨#[97,114,101,97]⟩
abbrev Y0:ρ:=⟨#[112,108,111,116]⟩
def KP(a:ρ->O)(b:Z->ρ->κ)(c:ρ->O->Z)(d:Z->ρ)(p:Z->κ):aE:=ext (ext g0 51 (am [.val,.val] (zX a b c))) 7 (aS (oY d p))
def KQ(a:ρ->O)(b:Z->ρ->κ)(c:ρ->O->Z)(d:Z->ρ)(p:Z->κ)(e:(O->O->Z)->Z->O->O->Z)(f:(O->O->Z)->Z->O->κ):aE:=ext (KP a b c d p) 52 (am dy (pK e f))
def SS(a:ρ->O)(b:Z->ρ->κ)(c:ρ->O->Z)(d:Z->ρ)(p:Z->κ)(e:(O->O->Z)->Z->O->O->Z)(f:(O->O->Z)->Z->O->κ)(R M:(O->Z)->O)(g:(O->Z)->κ)(h i:O->O->Z->Z)(gk:O->O->Z->κ):aE:=ext (ext (KQ a b c d p e f) 53 (am [.val] (um R M g))) 54 (aS (wJ h i gk))
def SU(a:ρ->O)(b:Z->ρ->κ)(c:ρ->O->Z)(d:Z->ρ)(p:Z->κ)(e:(O->O->Z)->O->Z->κ)(rt:(O->O->Z)->O->Z->E Cy)(f:(O->O->Z)->O->O->Z)(g:(O->O->Z)->O->κ):aE:=ext (ext (KP a b c d p) 55 (am dy (Je e rt))) 56 (am nc (wG f g))
def SV(a:Z->ρ)(p:Z->κ)(b c d:ρ->Z)(e:ρ->κ):aE:=ext (ext g0 7 (aS (oY a p))) 57 (aS (Ei b c d e))
def aqb(w:ρ->O)(C:Z->ρ->κ)(D:ρ->O->Z)(a:Z->ρ)(p:Z->κ)(c:(O->O->Z)->Z->O->O->Z)(G:(O->O->Z)->Z->O->κ)(s:ρ)(n:O)(f:ω):let d:=(ξ λq=>J f (0+q));let b:=(a8 (bj [(32:ψ)]));let e:=(D s 0);let H:=[AV.v (.string (a8 (bj [(110:ψ),(111:ψ),(10:ψ)])))];let g:=[AB.row η n 9 (J f) 112];let h:=(c d e n 5);let i:=(c d e n 2);let j:=(c d e n 4);let k:=(c d e n 6);let l:=(c d e n 0);let m:=(c d e n 3);let o:=(c d e n 7);let r:=(c d e n 1);let x:=(ba (a8 (bj [])) (a l));let y:=(ba (ba x b) (a r));let z:=(ba (ba y b) (a i));let u:=(ba (ba z b) (a m));let I:=(ba u b);let t:=(ba I (a j));let A:=(ba (ba t b) (a h));let B:=(ba (ba A b) (a k));let v:=(ba (ba B b) (a o));ad θ (KQ w C D a p c G) K 100 HZ [.sl 0 9 0 0 n ζ,.v (.string YT),.v (.string s)] [.row η n 9 (J f) 112] (af 1)
 =Ω [Δ (aW s) 4294967281] (bif !C (1:Z) s then rO H g else Ω [ο ((0:Z)<(↑(w s):Z)),ο (0<w s),Θ (0+n) n,ak n λq=>J f (0+q),ο (n<=274877906944)] (bif !G d e n then rO H g else Ω [p l,Θ (0+aW (a l)) 9223372036854775807,Θ (aW x+1) 9223372036854775807,p r,Θ (aW (ba x b)+aW (a r)) 9223372036854775807,Θ (aW y+1) 9223372036854775807,p i,Θ (aW (ba y b)+aW (a i)) 9223372036854775807,Θ (aW z+1) 9223372036854775807,p m,Θ (aW (ba z b)+aW (a m)) 9223372036854775807,Θ (aW u+1) 9223372036854775807,p j,Θ (aW I+aW (a j)) 9223372036854775807,Θ (aW t+1) 9223372036854775807,p h,Θ (aW (ba t b)+aW (a h)) 9223372036854775807,Θ (aW A+1) 9223372036854775807,p k,Θ (aW (ba A b)+aW (a k)) 9223372036854775807,Θ (aW B+1) 9223372036854775807,p o,Θ (aW (ba B b)+aW (a o)) 9223372036854775807,Θ (aW v+1) 9223372036854775807] (rO [AV.v (.string (ba v (a8 (bj [(10:ψ)]))))] g))):=by intros;kernel_rfl
def aqc(d:ρ->O)(k:Z->ρ->κ)(b:ρ->O->Z)(c:Z->ρ)(p:Z->κ)(l:(O->O->Z)->Z->O->O->Z)(m:(O->O->Z)->Z->O->κ)(R M:(O->Z)->O)(o:(O->Z)->κ)(r t:O->O->Z->Z)(gk:O->O->Z->κ)(s:ρ)(n:O)(f:ω):let g:=[AV.v (.string (a8 (bj [(110:ψ),(111:ψ),(10:ψ)])))];let e:=[AB.row η n 9 (J f) 112];let u:=(ξ λq=>J f (0+q));let a:=(w8 (l u (b s 0) n));let h:=(t (R a) (M a) (b s 1));let i:=(r (R a) (M a) (b s 1));let v:=(ba (a8 (bj [])) (c i));let j:=(ba v (a8 (bj [(32:ψ)])));ad θ (SS d k b c p l m R M o r t gk) K 100 HZ [.sl 0 9 0 0 n ζ,.v (.string YV),.v (.string s)] [.row η n 9 (J f) 112] (af 1)
 =Ω [Δ (aW s) 4294967281] (bif !k (2:Z) s then rO g e else Ω [ο ((0:Z)<(↑(d s):Z)),ο (0<d s),Θ (0+n) n,ak n λq=>J f (0+q),ο (n<=274877906944),ο ((1:Z)<(↑(d s):Z)),ο (1<d s)] (bif m u (b s 0) n then bif o a then bif !gk (R a) (M a) (b s 1)then rO g e else Ω [p i,Θ (0+aW (c i)) 9223372036854775807,Θ (aW v+1) 9223372036854775807,p h,Θ (aW j+aW (c h)) 9223372036854775807,Θ (aW (ba j (c h))+1) 9223372036854775807] (rO [AV.v (.string (ba (ba j (c h)) (a8 (bj [(10:ψ)]))))] e)else rO g e else rO g e)):=by intros;kernel_rfl
def aqd(r:ρ->O)(x:Z->ρ->κ)(t:ρ->O->Z)(a:Z->ρ)(p:Z->κ)(y:(O->O->Z)->O->Z->κ)(rt:(O->O->Z)->O->Z->E Cy)(h:(O->O->Z)->O->O->Z)(z:(O->O->Z)->O->κ)(s:ρ)(n:O)(f:ω):let i:=(a8 (bj [(32:ψ)]));let u:=[AV.v (.string (a8 (bj [(110:ψ),(111:ψ),(10:ψ)])))];let m:=[AB.row η n 9 (J f) 112];let j:=(ξ λq=>J f (0+q));let o:=(rt j n (t s 0));let k:=(bh (cM (jY o)));let b:=(b_ o);let c:=(h k b 2);let d:=(h k b 3);let e:=(h k b 0);let g:=(h k b 1);let v:=(ba (a8 (bj [])) (a e));let l:=(ba (ba v i) (a g));let A:=(ba l i);let w:=(ba A (a c));let B:=(ba (ba w i) (a d));ad θ (SU r x t a p y rt h z) K 100 HZ [.sl 0 9 0 0 n ζ,.v (.string YS),.v (.string s)] [.row η n 9 (J f) 112] (af 1)
 =Ω [Δ (aW s) 4294967281] (bif !x (1:Z) s then rO u m else Ω [ο ((0:Z)<(↑(r s):Z)),ο (0<r s),Θ (0+n) n,ak n λq=>J f (0+q),ο (n<=274877906944),Θ b b,hU b (cM (jY o)),ο (b_ o<=274877906944)] (bif y j n (t s 0)then bif !z k b then rO u m else Ω [p e,Θ (0+aW (a e)) 9223372036854775807,Θ (aW v+1) 9223372036854775807,p g,Θ (aW (ba v i)+aW (a g)) 9223372036854775807,Θ (aW l+1) 9223372036854775807,p c,Θ (aW A+aW (a c)) 9223372036854775807,Θ (aW w+1) 9223372036854775807,p d,Θ (aW (ba w i)+aW (a d)) 9223372036854775807,Θ (aW B+1) 9223372036854775807] (rO [AV.v (.string (ba B (a8 (bj [(10:ψ)]))))] m)else rO u m)):=by intros;kernel_rfl
def aqe(a:Z->ρ)(p:Z->κ)(b c d:ρ->Z)(e:ρ->κ)(s:ρ)(n:O)(f:ω):let g:=(ba (a8 (bj [])) (a (b s)));let h:=(a8 (bj [(32:ψ)]));let i:=[AB.row η n 9 (J f) 112];let j:=(ba g h);let k:=(ba j (a (c s)));let l:=(ba k h);let m:=(ba l (a (d s)));ad θ (SV a p b c d e) K 100 HZ [.sl 0 9 0 0 n ζ,.v (.string Y0),.v (.string s)] [.row η n 9 (J f) 112] (af 1)
 =bif !e s then rO [AV.v (.string (a8 (bj [(110:ψ),(111:ψ),(10:ψ)])))] i else Ω [p (b s),Θ (0+aW (a (b s))) 9223372036854775807,Θ (aW g+1) 9223372036854775807,p (c s),Θ (aW j+aW (a (c s))) 9223372036854775807,Θ (aW k+1) 9223372036854775807,p (d s),Θ (aW l+aW (a (d s))) 9223372036854775807,Θ (aW m+1) 9223372036854775807] (rO [AV.v (.string (ba m (a8 (bj [(10:ψ)]))))] i):=by intros;kernel_rfl
def o6(a:Z->Z->Z->κ->E Wh->κ)(b:Z->Z->Z->κ->E Wh->E Wh):aE:=ext m4 88 (am Mj (IW a b))
def Be:aK θ (o6 gS fQ):=az p0 akd
def aqZ(c:Z->Z->Z->κ->E Wh->κ)(d:Z->Z->Z->κ->E Wh->E Wh)(m:O)(f:ω)(x:Z):let e:=(V (ξ λq=>J f (0+q)) m);let g:=AB.row η m 9 (J f) 112;let a:=(0:Z);let b:=(d x a a η e);ad θ (o6 c d) K 100 f101 [.sl 0 9 0 0 m ζ,.v (ι x)] [.row η m 9 (J f) 112] (af 1)
 =bif !aD x (-20:Z) (20:Z)then rO [AV.Ψ [AV.own 1 0,vB η]] [g,AB.row ε 0 9 (λ_=>[]) 112]else Ω [Θ (0+m) m,ak m λq=>J f (0+q),ο (m<=274877906944)] (rO [AV.Ψ [AV.own 1 (b_ b),AV.v (.bool (c x a a η e))]] [g,AB.row ε (b_ b) 9 (J (Y b)) 112]):=by intros;kernel_rfl
def sn(a:Z->E Wh->κ)(tl:Z->E Wh->E Wh):E SA->χ FR
 |[.row m g,.v (.int .i64 x)]=>γ {val:=.Ψ [.own 0 (tl x (V (ξ g) m)).length,.v (.bool (a x (V (ξ g) m)))],new:=[.row ε (tl x (V (ξ g) m)).length 9 (J (Y (tl x (V (ξ g) m)))) 112],ap:=[ak m g,ο (m<=2^38)]}
 |_=>ζ
def akf:au θ 101 (am dy (sn yF tF)):=by
 refine bY Be func101 rfl λi l d h=>?_
 unfold sn at d;split at d
 ·rename_i m g x
  cases d;simp only[F]at h;obtain⟨e,k,_⟩:=h;have n:=aL k;refine⟨[.row η m 9 (J (ξ g)) 112],K,100,.cons (Ξ.row λj a=>aN e j a) .nil,dq _,?_⟩;show aC (ad θ (o6 gS fQ) K 100 f101 [.sl 0 9 0 0 m ζ,.v (ι x)] [.row η m 9 (J (ξ g)) 112] (af 1)) _
  rw[aqZ];simp only[bV,cb];refine ay (λq=>?_) λq=>?_
  ·have b:aD x (-20) 20=η:=by simpa using q
   have c:tF x (V (ξ g) m)=[]:=by rw[tF,b];rfl
   have f:yF x (V (ξ g) m)=η:=by rw[yF,b];rfl
   refine Φ ⟨_,rfl,?_,.cons (Ξ.row λj a=>(aN e j a).symm) ?_⟩
   ·rw[c,f]
    rfl
   ·show ab _ [.row ε (tF x (V (ξ g) m)).length 9 (J (Y (tF x (V (ξ g) m)))) 112]
    rw[c];exact .cons (Ξ.row λj a=>aO a (cN _)) .nil
  ·have b:aD x (-20) 20=ε:=by simpa using q
   have c:tF x (V (ξ g) m)=fQ x 0 0 η (V (ξ g) m):=by rw[tF,b];rfl
   have f:yF x (V (ξ g) m)=gS x 0 0 η (V (ξ g) m):=by rw[yF,b];rfl
   refine ag (by simp only[F,ah,aa,aB,aT,bw,bo];omega) (Φ ⟨_,rfl,?_,.cons (Ξ.row λj a=>(aN e j a).symm) ?_⟩)
   ·rw[c,f]
    rfl
   ·show ab _ [.row ε (tF x (V (ξ g) m)).length 9 (J (Y (tF x (V (ξ g) m)))) 112]
    rw[c];exact ab.refl _
 ·cases d
def arO(b:E Wh->κ)(e:E Wh->E Wh)(c:E Wh->κ)(m:O)(f:ω)(n:O)(h:ω):let a:=(0+m);let i:=[AV.Ψ [AV.own 2 0,vB η]];let d:=(0+m+n);let j:=AB.row η m 9 (J f) 112;let k:=AB.row η n 9 (J h) 112;let g:=(V (ξ λq=>[ι (bif Δ q a then f (0+(q-0)) 0 else h (0+(q-a)) 0),ι (bif Δ q a then f (0+(q-0)) 1 else h (0+(q-a)) 1),ι (bif Δ q a then f (0+(q-0)) 2 else h (0+(q-a)) 2),ι (bif Δ q a then f (0+(q-0)) 3 else h (0+(q-a)) 3),ι (bif Δ q a then f (0+(q-0)) 4 else h (0+(q-a)) 4),ι (bif Δ q a then f (0+(q-0)) 5 else h (0+(q-a)) 5),ι (bif Δ q a then f (0+(q-0)) 6 else h (0+(q-a)) 6),ι (bif Δ q a then f (0+(q-0)) 7 else h (0+(q-a)) 7),ι (bif Δ q a then f (0+(q-0)) 8 else h (0+(q-a)) 8)]) d);let l:=[j,k,AB.row ε 0 9 (λ_=>[]) 112];let o:=(b_ (e g));ad θ (rc b e c) K 100 f47 [.sl 0 9 0 0 m ζ,.sl 1 9 0 0 n ζ] (o_ m f n h) (af 2)
 =Ω [Θ a m,ak m λq=>J f (0+q),ο (m<=549755813888)] (bif !b (V (ξ λq=>J f (0+q)) m)then rO i l else Ω [Θ (0+n) n,ak n λq=>J h (0+q),ο (n<=549755813888)] (bif !b (V (ξ λq=>J h (0+q)) n)then rO i l else Ω [Θ a 549755813888,Θ a m,Θ a a,Θ d 549755813888,Θ (0+n) n,Θ d d,ak d λq=>[ι (bif Δ q a then f (0+(q-0)) 0 else h (0+(q-a)) 0),ι (bif Δ q a then f (0+(q-0)) 1 else h (0+(q-a)) 1),ι (bif Δ q a then f (0+(q-0)) 2 else h (0+(q-a)) 2),ι (bif Δ q a then f (0+(q-0)) 3 else h (0+(q-a)) 3),ι (bif Δ q a then f (0+(q-0)) 4 else h (0+(q-a)) 4),ι (bif Δ q a then f (0+(q-0)) 5 else h (0+(q-a)) 5),ι (bif Δ q a then f (0+(q-0)) 6 else h (0+(q-a)) 6),ι (bif Δ q a then f (0+(q-0)) 7 else h (0+(q-a)) 7),ι (bif Δ q a then f (0+(q-0)) 8 else h (0+(q-a)) 8)],ο (0+m+n<=274877906944)] (rO [AV.Ψ [AV.own 2 o,AV.v (.bool (c g))]] [j,k,AB.row ε o 9 (J (Y (e g))) 112]))):=by intros;kernel_rfl
def arP(a:E Wh->κ)(c:E Wh->E Wh)(b:E Wh->κ)(m:O)(f:ω)(n:O)(h:ω):ad θ (rc a c b) K 100 f47 [.sl 0 9 0 0 m ζ,.sl 1 9 0 0 n ζ] (o_ m f n h) (af 2)=Ω [Θ m m,ak m (J f),ο (m<=549755813888)] (bif !a (V (ξ (J f)) m)then .out .ret [.Ψ [.own 2 0,.v (.bool η)]] [.row η m 9 (J f) 112,.row η n 9 (J h) 112,.row ε 0 9 (λ_=>[]) 112]else Ω [Θ n n,ak n (J h),ο (n<=549755813888)] (bif !a (V (ξ (J h)) n)then .out .ret [.Ψ [.own 2 0,.v (.bool η)]] [.row η m 9 (J f) 112,.row η n 9 (J h) 112,.row ε 0 9 (λ_=>[]) 112]else Ω [Θ m 549755813888,Θ m m,Θ m m,Θ (m+n) 549755813888,Θ n n,Θ (m+n) (m+n),ak (m+n) (J (iR m f h)),ο (m+n<=274877906944)] (.out .ret [.Ψ [.own 2 (c (V (ξ (J (iR m f h))) (m+n))).length,.v (.bool (b (V (ξ (J (iR m f h))) (m+n))))]] [.row η m 9 (J f) 112,.row η n 9 (J h) 112,.row ε (c (V (ξ (J (iR m f h))) (m+n))).length 9 (J (Y (c (V (ξ (J (iR m f h))) (m+n))))) 112]))):=by rw[arO];simp only[bF,zI];rfl
def alb:au θ 47 (am kB (wN gO iA)):=by
 refine bY Tj func47 rfl λt C k o=>?_
 unfold wN at k;split at k
 ·rename_i m a n c
  cases k;simp only[F]at o;obtain⟨p,r,u,v,_⟩:=o;have H:=aL u;have I:=aL v;have h:∀(D:E Wh)(b:κ)(G:O->E τ),gO (V (ξ a) m) (V (ξ c) n)=b->iA (V (ξ a) m) (V (ξ c) n)=D->(∀j,j<D.length->G j=J (Y D) j)->aC (.out .ret [.Ψ [.own 2 D.length,.v (.bool b)]] [.row η m 9 (J (ξ a)) 112,.row η n 9 (J (ξ c)) 112,.row ε D.length 9 G 112])
    (dV (bI kB [.row m a,.row n c] []) {val:=.Ψ [.own 0 (iA (V (ξ a) m) (V (ξ c) n)).length,.v (.bool (gO (V (ξ a) m) (V (ξ c) n)))],new:=[.row ε (iA (V (ξ a) m) (V (ξ c) n)).length 9 (J (Y (iA (V (ξ a) m) (V (ξ c) n)))) 112],ap:=[ak m a,ak n c,ο (m<=2^38),ο (n<=2^38)]}):=by
   rintro D b G rfl rfl z;exact Φ ⟨_,rfl,rfl,.cons (Ξ.row λj d=>(aN p j d).symm) (.cons (Ξ.row λj d=>(aN r j d).symm) (.cons (Ξ.row z) .nil))⟩
  have i:∀G,qx (V (ξ a) m) (V (ξ c) n)=η->aC (.out .ret [.Ψ [.own 2 0,.v (.bool η)]] [.row η m 9 (J (ξ a)) 112,.row η n 9 (J (ξ c)) 112,.row ε 0 9 G 112]) _:=λG e=>h [] η G (by rw[gO,qC,e];rfl) (by rw[iA,C8,e];rfl) λj d=>aO d (cN _)
  refine⟨o_ m (ξ a) n (ξ c),K,100,.cons (Ξ.row λj d=>aN p j d) (.cons (Ξ.row λj d=>aN r j d) .nil),dq _,?_⟩;show aC (ad θ (rc aG bv bg) K 100 f47 [.sl 0 9 0 0 m ζ,.sl 1 9 0 0 n ζ] (o_ m (ξ a) n (ξ c)) (af 2)) _
  rw[arP,cb,cb,cb];have e:V (iR m (ξ a) (ξ c)) (m+n)=V (ξ a) m++V (ξ c) n:=Ma m n _ _;rw[e];refine ag (by simp only[F,ah,aa,aB,aT,bw,bo];omega) (ay (λq=>?_) λq=>ag (by simp only[F,ah,aa,aB,aT,bw,bo];omega) (ay (λl=>?_) λl=>ag ?_ ?_))
  ·have f:(!aG (V (ξ a) m))=ε:=q
   exact i _ (by rw[qx,show aG (V (ξ a) m)=η by simpa using f];rfl)
  ·have f:(!aG (V (ξ c) n))=ε:=l
   exact i _ (by rw[qx,show aG (V (ξ c) n)=η by simpa using f,gP])
  ·have f:(!aG (V (ξ a) m))=η:=q
   have g:(!aG (V (ξ c) n))=η:=l;have A:=kd (show aG (V (ξ a) m)=ε by simpa using f);have B:=kd (show aG (V (ξ c) n)=ε by simpa using g);rw[ch]at A B;simp only[F,ah,aa,aB,aT,bw,bo];omega
  ·have f:(!aG (V (ξ a) m))=η:=q
   have g:(!aG (V (ξ c) n))=η:=l;have s:qx (V (ξ a) m) (V (ξ c) n)=ε:=by rw[qx,show aG (V (ξ a) m)=ε by simpa using f,show aG (V (ξ c) n)=ε by simpa using g];rfl
   exact h _ _ _ (by rw[gO,qC,s];rfl) (by rw[iA,C8,s];rfl) λj d=>rfl
 ·cases k
def ar8(b:Z->Z->Z->κ->E Wh->κ)(c:Z->Z->Z->κ->E Wh->E Wh)(m:O)(f:ω)(x:Z):let d:=(V (ξ λq=>J f (0+q)) m);let a:=(c (1:Z) x (0:Z) η d);ad θ (o6 b c) K 100 f99 [.sl 0 9 0 0 m ζ,.v (ι x)] [.row η m 9 (J f) 112] (af 1)
 =Ω [Θ (0+m) m,ak m λq=>J f (0+q),ο (m<=274877906944)] (rO [AV.Ψ [AV.own 1 (b_ a),AV.v (.bool (b (1:Z) x (0:Z) η d))]] [AB.row η m 9 (J f) 112,AB.row ε (b_ a) 9 (J (Y a)) 112]):=by intros;kernel_rfl
def alp:au θ 99 (am dy (sn yT tT)):=by
 refine bY Be func99 rfl λe h a c=>?_
 unfold sn at a;split at a
 ·rename_i m g x
  cases a;simp only[F]at c;obtain⟨d,f,_⟩:=c;have i:=aL f;refine⟨[.row η m 9 (J (ξ g)) 112],K,100,.cons (Ξ.row λj b=>aN d j b) .nil,dq _,?_⟩;show aC (ad θ (o6 gS fQ) K 100 f99 [.sl 0 9 0 0 m ζ,.v (ι x)] [.row η m 9 (J (ξ g)) 112] (af 1)) _
  rw[ar8];simp only[bV,cb];exact ag (by simp only[F,ah,aa,aB,aT,bw,bo];omega) (Φ ⟨_,rfl,rfl,.cons (Ξ.row λj b=>(aN d j b).symm) (ab.refl _)⟩)
 ·cases a
def aq'(b:Z->Z->Z->κ->E Wh->κ)(c:Z->Z->Z->κ->E Wh->E Wh)(m:O)(f:ω)(x:Z):let d:=(V (ξ λq=>J f (0+q)) m);let a:=(c (1:Z) (0:Z) x η d);ad θ (o6 b c) K 100 f100 [.sl 0 9 0 0 m ζ,.v (ι x)] [.row η m 9 (J f) 112] (af 1)
 =Ω [Θ (0+m) m,ak m λq=>J f (0+q),ο (m<=274877906944)] (rO [AV.Ψ [AV.own 1 (b_ a),AV.v (.bool (b (1:Z) (0:Z) x η d))]] [AB.row η m 9 (J f) 112,AB.row ε (b_ a) 9 (J (Y a)) 112]):=by intros;kernel_rfl
def akG:au θ 100 (am dy (sn yL tL)):=by
 refine bY Be func100 rfl λe h a c=>?_
 unfold sn at a;split at a
 ·rename_i m g x
  cases a;simp only[F]at c;obtain⟨d,f,_⟩:=c;have i:=aL f;refine⟨[.row η m 9 (J (ξ g)) 112],K,100,.cons (Ξ.row λj b=>aN d j b) .nil,dq _,?_⟩;show aC (ad θ (o6 gS fQ) K 100 f100 [.sl 0 9 0 0 m ζ,.v (ι x)] [.row η m 9 (J (ξ g)) 112] (af 1)) _
  rw[aq'];simp only[bV,cb];exact ag (by simp only[F,ah,aa,aB,aT,bw,bo];omega) (Φ ⟨_,rfl,rfl,.cons (Ξ.row λj b=>(aN d j b).symm) (ab.refl _)⟩)
 ·cases a
def aqh(c:Z->Z->Z->κ->E Wh->κ)(d:Z->Z->Z->κ->E Wh->E Wh)(m:O)(f:ω):let e:=(V (ξ λq=>J f (0+q)) m);let a:=(0:Z);let b:=(d (-1:Z) a a η e);ad θ (o6 c d) K 100 f39 [.sl 0 9 0 0 m ζ] [.row η m 9 (J f) 112] (af 1)
 =Ω [Θ (0+m) m,ak m λq=>J f (0+q),ο (m<=274877906944)] (rO [AV.Ψ [AV.own 1 (b_ b),AV.v (.bool (c (-1:Z) a a η e))]] [AB.row η m 9 (J f) 112,AB.row ε (b_ b) 9 (J (Y b)) 112]):=by intros;kernel_rfl
def VH:au θ 39 (am bP (pL yB tB)):=by
 refine bY Be func39 rfl λe h a c=>?_
 unfold pL at a;split at a
 ·rename_i m g
  cases a;simp only[F]at c;obtain⟨d,f,_⟩:=c;have i:=aL f;refine⟨[.row η m 9 (J (ξ g)) 112],K,100,.cons (Ξ.row λj b=>aN d j b) .nil,dq _,?_⟩;show aC (ad θ (o6 gS fQ) K 100 f39 [.sl 0 9 0 0 m ζ] [.row η m 9 (J (ξ g)) 112] (af 1)) _
  rw[aqh];simp only[bV,cb];exact ag (by simp only[F,ah,aa,aB,aT,bw,bo];omega) (Φ ⟨_,rfl,rfl,.cons (Ξ.row λj b=>(aN d j b).symm) (ab.refl _)⟩)
 ·cases a
def arf(c:Z->Z->Z->κ->E Wh->κ)(d:Z->Z->Z->κ->E Wh->E Wh)(m:O)(f:ω):let e:=(V (ξ λq=>J f (0+q)) m);let a:=(0:Z);let b:=(d (-1:Z) a a ε e);ad θ (o6 c d) K 100 f40 [.sl 0 9 0 0 m ζ] [.row η m 9 (J f) 112] (af 1)
 =Ω [Θ (0+m) m,ak m λq=>J f (0+q),ο (m<=274877906944)] (rO [AV.Ψ [AV.own 1 (b_ b),AV.v (.bool (c (-1:Z) a a ε e))]] [AB.row η m 9 (J f) 112,AB.row ε (b_ b) 9 (J (Y b)) 112]):=by intros;kernel_rfl
def akK:au θ 40 (am bP (pL yM tM)):=by
 refine bY Be func40 rfl λe h a c=>?_
 unfold pL at a;split at a
 ·rename_i m g
  cases a;simp only[F]at c;obtain⟨d,f,_⟩:=c;have i:=aL f;refine⟨[.row η m 9 (J (ξ g)) 112],K,100,.cons (Ξ.row λj b=>aN d j b) .nil,dq _,?_⟩;show aC (ad θ (o6 gS fQ) K 100 f40 [.sl 0 9 0 0 m ζ] [.row η m 9 (J (ξ g)) 112] (af 1)) _
  rw[arf];simp only[bV,cb];exact ag (by simp only[F,ah,aa,aB,aT,bw,bo];omega) (Φ ⟨_,rfl,rfl,.cons (Ξ.row λj b=>(aN d j b).symm) (ab.refl _)⟩)
 ·cases a
def Cn{w w':υ}{base:O}{b:κ}{T:E Wh}{a:Nu}{v:τ}(h:VR a (.Ψ [.own base T.length,.v (.bool b)]) v)(c:BR a base (.row ε T.length 9 (J (Y T)) 112) w')(i:∀b,a base=γ b->w.heap.size<=b.n/\b.n<w'.heap.size)(j:Fr (aq w) w w'):eX w b T (.returned v) w':=by
 obtain⟨x,y,rfl,d,m⟩:=Dd h;rw[vV m];refine⟨x,rfl,λ_=>?_,j⟩;have n:VR a (.sl base 9 0 0 T.length ζ) x:=by
  simp only[VR]at d⊢;obtain⟨k,f,rfl⟩:=d;rcases c with⟨e,_⟩|⟨q,l,r,s,g,t,o,p,u⟩
  ·cases e
  ·rw[f]at g
   cases g;exact⟨_,_,rfl,by simp,p,λ_=>⟨k,f,by rw[(o rfl).2.1]⟩⟩
 exact .of rfl n c λb c=>(i b c).2
def dO(base:O)(rd:E O)(b:κ)(T:E Wh)(ob:E κ):Delta:={val:=.Ψ [.own base T.length,.v (.bool b)],rd:=rd,put:=[],new:=[.row ε T.length 9 (J (Y T)) 112],ap:=ob}
def JL{f:bq}{y:Z->E Wh->κ}{t:Z->E Wh->E Wh}(h:au θ f (am dy (sn y t)))(x:Z){v:τ}{L:E Wh}{w:υ}(a:bl w v L)(c:L.length<=12)(d:aY (aq w) w):aH θ f #[v,ι x] w (eX w (y x L) (t x L)):=by have e:am dy (sn y t) [.sl 0 9 0 0 L.length ζ,.v (ι x)] [.row η L.length 9 (J (Y L)) 112] 1=γ (dO 1 [0] (y x (ex L)) (t x (ex L)) (Θ (0+L.length) L.length::(lN L++[]))):=rfl;rw[ic]at e;refine(mZ h [ι x] a e (mr c _) rfl rfl d).mono ?_;rintro e n ⟨x,g,rfl,i,j,k,l⟩;exact Cn i (j 0 _ rfl) (λb m=>k 0 b (ft 0) m) l
def JK{f:bq}{y:E Wh->κ}{t:E Wh->E Wh}(h:au θ f (am bP (pL y t))){v:τ}{L:E Wh}{w:υ}(a:bl w v L)(c:L.length<=12)(d:aY (aq w) w):aH θ f #[v] w (eX w (y L) (t L)):=by have e:am bP (pL y t) [.sl 0 9 0 0 L.length ζ] [.row η L.length 9 (J (Y L)) 112] 1=γ (dO 1 [0] (y (ex L)) (t (ex L)) (Θ (0+L.length) L.length::(lN L++[]))):=rfl;rw[ic]at e;refine(mZ h [] a e (mr c _) rfl rfl d).mono ?_;rintro e n ⟨x,g,rfl,i,j,k,l⟩;exact Cn i (j 0 _ rfl) (λb m=>k 0 b (ft 0) m) l
def JO(s:ρ){w:υ}(a:aY (aq w) w):aH θ 46 #[.string s] w (eX w (ir s) (ik s)):=by have e:am [.val] (I' ir ik) [.v (.string s)] [] 0=γ (dO 0 [] (ir s) (ik s) []):=rfl;refine(xf akX [.string s] e rfl rfl rfl a).mono ?_;rintro e j ⟨x,c,rfl,d,f,g,h⟩;exact Cn d (f 0 _ rfl) (λb i=>g 0 b (ft 0) i) h
def Ys{L:E Wh}(h:bH L):(fM L).size<=3000:=by
 have d:=dL h;have a:=rU h;unfold aG at a;rw[aM]at a;have b:∀w∈L,e9 w=ε:=λw c=>bX.1 a.2 w c
 have e:=N' b;unfold fM;rw[tN h,aZ,zb h,dB];cases L with
 |nil=>show(1:O)<=3000;omega
 |cons w L=>rw[List.isEmpty_cons,a_,tb];omega
def sG(a b:E ψ):ba (a8 (bj a)) (a8 (bj b))=a8 (bj (a++b)):=ux a b
def uz(n:Z):bM n=a8 (bj (bc n)):=rfl
def apR(x y z:Z):fL [x,y,z]=bc x++([32]++(bc y++([32]++bc z))):=by simp[fL,iD]
abbrev B6:E ψ:=[110,111]
def rQ(x:χ (E Wh×E ψ)):ρ:=⟨((match x with|some y=>y.2|none=>B6)++[10]).toArray⟩
def EC{Γ:aE}(c:aK θ Γ){v:τ}{L:E Wh}{w:υ}(q:bl w v L)(r:aY (aq w) w){d s t:ρ}(hex:aC (ad θ Γ K 100 HZ [.sl 0 9 0 0 L.length ζ,.v (.string d),.v (.string s)] [.row η L.length 9 (J (Y L)) 112] (af 1)) (λ_ l _=>l=[.v (.string t)])):aH θ 15 #[v,.string d,.string s] w (f_ w (.string t)):=by
 obtain⟨h,m,u,y⟩:=q.lt;refine(nS (vals:=[v,.string d,.string s]) (H:=[.row η L.length 9 (J (Y L)) 112]) (ν:=h) (M:=aq w) c mixed enters func15 (dq _) (λk z=>z) hex.out ⟨u,rfl,rfl,trivial⟩ ⟨λi=>?_,λi j b D _ a=>?_,λi b a=>?_,λi b f=>(m i b f).2,r⟩ (λi b f=>(m i b f).1)).mono ?_
 ·cases i with
  |zero=>exact y
  |succ i=>trivial
 ·cases i with
  |zero=>cases a
  |succ i=>cases a
 ·cases i with
  |zero=>cases a
  |succ i=>cases a
 ·rintro e G ⟨x,I,N,A,rfl,o,p,B,g,C,_⟩
  simp only[lA,aa]at o;subst o;simp only[VR]at p;exact⟨by rw[p],g⟩
abbrev vn(n:Z):κ:=ο (-9223372036854775807<=n/\n<=9223372036854775807)
def SW:aK θ (KP iJ jm nd bM vn):=az (az bt MO) Ch
def SQ:aK θ (KQ iJ jm nd bM vn dP dp):=az SW (Io▸MF)
def afL:aK θ (SS iJ jm nd bM vn dP dp gh gg fT jA jB j3):=az (az SQ V4) ako
def afM:aK θ (SU iJ jm nd bM vn er fy hV iG):=az (az SW ak1) ajB
def afN:aK θ (SV bM vn yu yw yr yp):=az (az bt Ch) akU
def vd(l:E ψ):(a8 (bj l)).size=l.length:=rfl
def vl{L:E Wh}(h:L.length<=12):Θ (0+L.length) L.length=ε/\ak L.length (J (Y L))=ε/\ο (L.length<=274877906944)=ε:=⟨by rw[aT];omega,bw _ _,bA (by omega)⟩
def ab4{v:τ}{L:E Wh}{w:υ}(s:ρ)(e:bl w v L)(g:L.length<=12)(h:aY (aq w) w)(hs:s.size<=1000):aH θ 15 #[v,.string YT,.string s] w (f_ w (.string (rQ (mw L s.data.toList)))):=by
 refine EC SQ e h ?_;have i:Δ s.size 4294967281=ε:=by rw[bS];omega
 obtain⟨j,l,o⟩:=vl g;rw[aqb];simp only[bV,nW,qW];refine ag (by simp only[F,ah,aa];exact i) (ay (λc=>Φ ?_) λc=>?_)
 ·have c:cP 1 s.data.toList=η:=by rw[<-nf];simpa using c
  unfold mw;rw[c];rfl
 ·have c:cP 1 s.data.toList=ε:=by rw[<-nf];simpa using c
  rw[ti c,qg c (nI)];refine ag (by simp only[F,ah,aa,j,l,o];decide) (ay (λd=>Φ ?_) λd=>?_)
  ·have d:sJ L (aI s.data.toList 0)=η:=by simpa using d
   unfold mw;rw[c,d];rfl
  ·have d:sJ L (aI s.data.toList 0)=ε:=by simpa using d
   have q:mw L s.data.toList=γ (L,fL (pO (iS L (aI s.data.toList 0)))):=by unfold mw;rw[c,d];rfl
   rw[q];have b:=λ{k:O}(p:k<8)=>J1 (f:=Y L) (n:=aI s.data.toList 0) (m:=L.length) d p
   rw[apP];unfold iS;generalize dP (Y L) (aI s.data.toList 0) L.length=a at*;have C:=gD (b (k:=0) (by omega));have D:=gD (b (k:=1) (by omega));have G:=gD (b (k:=2) (by omega));have H:=gD (b (k:=3) (by omega));have I:=gD (b (k:=4) (by omega));have M:=gD (b (k:=5) (by omega));have N:=gD (b (k:=6) (by omega));have P:=gD (b (k:=7) (by omega));have r:=iX (b (k:=0) (by omega));have t:=iX (b (k:=1) (by omega));have u:=iX (b (k:=2) (by omega));have x:=iX (b (k:=3) (by omega));have y:=iX (b (k:=4) (by omega));have z:=iX (b (k:=5) (by omega));have A:=iX (b (k:=6) (by omega));have B:=iX (b (k:=7) (by omega));simp only[uz,sG,vd];refine ag ?_ (Φ ?_)
   ·simp only[F,ah,aa,r,t,u,x,y,z,A,B,bo,aT,cv,cn,gm]
    omega
   ·unfold rQ
    simp only[mO,lZ]
def ab5{v:τ}{L:E Wh}{w:υ}(s:ρ)(f:bl w v L)(g:L.length<=12)(h:aY (aq w) w)(hs:s.size<=1000):aH θ 15 #[v,.string YV,.string s] w (f_ w (.string (rQ (mj L s.data.toList)))):=by
 refine EC afL f h ?_;have i:Δ s.size 4294967281=ε:=by rw[bS];omega
 obtain⟨j,k,l⟩:=vl g;rw[aqc];simp only[bV,nW,qW];refine ag (by simp only[F,ah,aa];exact i) (ay (λa=>Φ ?_) λa=>?_)
 ·have a:cP 2 s.data.toList=η:=by rw[<-nf];simpa using a
  unfold mj;rw[a];rfl
 ·have a:cP 2 s.data.toList=ε:=by rw[<-nf];simpa using a
  rw[ti a,qg a (show 0<2 by omega),qg a (show 1<2 by omega)];refine ag (by simp only[F,ah,aa,j,k,l,bo];decide) (ay (λb=>?_) λb=>Φ ?_)
  ·have b:sJ L (aI s.data.toList 0)=ε:=b
   refine eS (ER b) (ay (λc=>Φ ?_) λc=>?_)
   ·have c:Bh L (aI s.data.toList 0) (aI s.data.toList 1)=η:=by simpa using c
    unfold mj;rw[a,b,c];rfl
   ·have c:Bh L (aI s.data.toList 0) (aI s.data.toList 1)=ε:=by simpa using c
    have q:mj L s.data.toList=γ (L,fL [F9 L (aI s.data.toList 0) (aI s.data.toList 1),F_ L (aI s.data.toList 0) (aI s.data.toList 1)]):=by unfold mj;rw[a,b,c];rfl
    rw[q];obtain⟨d,e⟩:=F8 (gh (w8 (iS L (aI s.data.toList 0)))) (gg (w8 (iS L (aI s.data.toList 0)))) (aI s.data.toList 1);rw[apS];unfold F9 F_;generalize jA (gh (w8 (iS L (aI s.data.toList 0)))) (gg (w8 (iS L (aI s.data.toList 0)))) (aI s.data.toList 1)=x at*;generalize jB (gh (w8 (iS L (aI s.data.toList 0)))) (gg (w8 (iS L (aI s.data.toList 0)))) (aI s.data.toList 1)=y at*;have o:=gD d;have p:=gD e;have m:=iX d;have n:=iX e;simp only[uz,sG,vd];refine ag ?_ (Φ ?_)
    ·simp only[F,ah,aa,m,n,bo,aT,cv,cn,gm]
     omega
    ·unfold rQ
     simp only[mO,lZ]
  ·have b:sJ L (aI s.data.toList 0)=η:=b
   unfold mj;rw[a,b];rfl
def ab3{v:τ}{L:E Wh}{w:υ}(s:ρ)(g:bl w v L)(i:L.length<=12)(j:aY (aq w) w)(hs:s.size<=1000):aH θ 15 #[v,.string YS,.string s] w (f_ w (.string (rQ (ma L s.data.toList)))):=by
 refine EC afM g j ?_;have l:Δ s.size 4294967281=ε:=by rw[bS];omega
 obtain⟨f,m,n⟩:=vl i;rw[aqd];have y:∀h:O->O->Z,(λq=>cM h (0+q))=cM h:=λh=>by funext q;rw[bF]
 simp only[bV];rw[bF,bF];refine ag (by simp only[F,ah,aa];exact l) (ay (λb=>Φ ?_) λb=>?_)
 ·have b:cP 1 s.data.toList=η:=by rw[<-nf];simpa using b
  unfold ma;rw[b];rfl
 ·have b:cP 1 s.data.toList=ε:=by rw[<-nf];simpa using b
  rw[ti b,qg b (nI)];have o:hU (fy (ξ (J (Y L))) L.length (aI s.data.toList 0)).length (cM (jY (fy (ξ (J (Y L))) L.length (aI s.data.toList 0))))=ε:=sx (a:=jY (fy (ξ (J (Y L))) L.length (aI s.data.toList 0))) λ_ _=>rfl
  have z:(fy (ξ (J (Y L))) L.length (aI s.data.toList 0)).length<=24:=WX _ _ _;refine ag ?_ (ay (λc=>?_) λc=>Φ ?_)
  ·rw[bF]at f
   simp only[F,ah,aa,f,m,n,o,bo,aB,aT];omega
  ·have c:CC L (aI s.data.toList 0)=ε:=c
   refine ay (λd=>Φ ?_) λd=>?_
   ·have d:Aa (gW L (aI s.data.toList 0))=η:=by simpa using d
    unfold ma;rw[b,c,d];rfl
   ·have d:Aa (gW L (aI s.data.toList 0))=ε:=by simpa using d
    have q:ma L s.data.toList=γ (L,fL [mV (gW L (aI s.data.toList 0)) 0,mV (gW L (aI s.data.toList 0)) 1,mV (gW L (aI s.data.toList 0)) 2,mV (gW L (aI s.data.toList 0)) 3]):=by unfold ma;rw[b,c,d];rfl
    rw[q,apQ];have e:=λ{k:O}(p:k<4)=>wU d p
    unfold mV gW at*;generalize hV (bh (cM (jY (fy (ξ (J (Y L))) L.length (aI s.data.toList 0))))) (fy (ξ (J (Y L))) L.length (aI s.data.toList 0)).length=a at*;have A:=gD (e (k:=0) (by omega));have B:=gD (e (k:=1) (by omega));have C:=gD (e (k:=2) (by omega));have D:=gD (e (k:=3) (by omega));have r:=iX (e (k:=0) (by omega));have t:=iX (e (k:=1) (by omega));have u:=iX (e (k:=2) (by omega));have x:=iX (e (k:=3) (by omega));simp only[uz,sG,vd];refine ag ?_ (Φ ?_)
    ·simp only[F,ah,aa,r,t,u,x,bo,aT,cv,cn,gm]
     omega
    ·unfold rQ
     simp only[mO,lZ]
  ·have c:CC L (aI s.data.toList 0)=η:=c
   unfold ma;rw[b,c];rfl
def ab7{v:τ}{L:E Wh}{w:υ}(s:ρ)(d:bl w v L)(e:aY (aq w) w):aH θ 15 #[v,.string Y0,.string s] w (f_ w (.string (rQ (rJ L s.data.toList)))):=by
 refine EC afN d e ?_;rw[aqe];have f:=λT=>C7 (s:=s.data.toList) (T:=T)
 unfold yp yu yw yr Cq rJ;cases g:i7 s.data.toList with
 |none=>simp only[Option.isSome_none,Option.map_none];exact eS rfl (Φ rfl)
 |some T=>
  have k:=MW T;have l:=f T g;simp only[Option.isSome_some,zJ];refine cL rfl ?_;rw[apR];have a:lu (cU T).x:=by omega
  have b:lu (cU T).y:=by omega
  have c:lu ((cU T).t:Z):=by omega
  generalize(cU T).x=x at*;generalize(cU T).y=y at*;generalize((cU T).t:Z)=z at*;have m:=gD a;have n:=gD b;have o:=gD c;have h:=iX a;have i:=iX b;have j:=iX c;simp only[uz,sG,vd];refine ag ?_ (Φ ?_)
  ·simp only[F,ah,aa,h,i,j,bo,aT,cv,cn,gm]
   omega
  ·unfold rQ
   simp only[mO,lZ]
abbrev Y1:ρ:=⟨#[115,104,111,119]⟩
abbrev YU:ρ:=⟨#[102,111,108,100]⟩
abbrev YZ:ρ:=⟨#[112,101,114,105,111,100]⟩
abbrev Y2:ρ:=⟨#[115,117,109]⟩
def SZ(a:E Wh->ρ)(b:E Wh->κ):aE:=ext g0 41 (am bP (uj a b))
def FF(a:Z->ρ)(p:Z->κ)(b c:E Wh->Z)(d:E Wh->Z)(e:E Wh->κ):aE:=ext (ext (ext (ext g0 7 (aS (oY a p))) 43 (am bP (nN b))) 44 (am bP (nN c))) 45 (am bP (wH d e))
def aqi(a:E Wh->ρ)(d:E Wh->κ)(n c:O)(f:ω):let b:=(a (V (ξ λq=>J f (0+q)) n));ad θ (SZ a d) K 100 HY [.sl 0 9 0 0 n (γ c),.v (.string Y1)] [.row η n 9 (J f) 112] (af 1)
 =Ω [Θ (0+n) n,ak n λq=>J f (0+q),ο (n<=274877906944),Θ (aW b+1) 9223372036854775807] (rO [AV.Ψ [AV.sl 0 9 0 0 n (γ c),AV.v (.string (ba b (a8 (bj [(10:ψ)]))))]] [AB.row η n 9 (J f) 112]):=by intros;kernel_rfl
def aqj(a:Z->ρ)(p:Z->κ)(d g:E Wh->Z)(h:E Wh->Z)(i:E Wh->κ)(n c:O)(f:ω):let b:=(d (V (ξ λq=>J f (0+q)) n));let e:=(ba (a8 (bj [])) (a b));ad θ (FF a p d g h i) K 100 HY [.sl 0 9 0 0 n (γ c),.v (.string YU)] [.row η n 9 (J f) 112] (af 1)
 =Ω [Θ (0+n) n,ak n λq=>J f (0+q),ο (n<=274877906944),p b,Θ (0+aW (a b)) 9223372036854775807,Θ (aW e+1) 9223372036854775807] (rO [AV.Ψ [AV.sl 0 9 0 0 n (γ c),AV.v (.string (ba e (a8 (bj [(10:ψ)]))))]] [AB.row η n 9 (J f) 112]):=by intros;kernel_rfl
def aqk(a:Z->ρ)(p:Z->κ)(g d:E Wh->Z)(h:E Wh->Z)(i:E Wh->κ)(n c:O)(f:ω):let b:=(d (V (ξ λq=>J f (0+q)) n));let e:=(ba (a8 (bj [])) (a b));ad θ (FF a p g d h i) K 100 HY [.sl 0 9 0 0 n (γ c),.v (.string YZ)] [.row η n 9 (J f) 112] (af 1)
 =Ω [Θ (0+n) n,ak n λq=>J f (0+q),ο (n<=274877906944),p b,Θ (0+aW (a b)) 9223372036854775807,Θ (aW e+1) 9223372036854775807] (rO [AV.Ψ [AV.sl 0 9 0 0 n (γ c),AV.v (.string (ba e (a8 (bj [(10:ψ)]))))]] [AB.row η n 9 (J f) 112]):=by intros;kernel_rfl
def YD(a:Z->ρ)(p:Z->κ)(k l:E Wh->Z)(d:E Wh->Z)(e:E Wh->κ)(n c:O)(f:ω):let g:=(V (ξ λq=>J f (0+q)) n);let h:=[AB.row η n 9 (J f) 112];let i:=AV.sl 0 9 0 0 n (γ c);let b:=(aj .i64 (d g));let j:=(ba (a8 (bj [])) (a b));ad θ (FF a p k l d e) K 100 HY [.sl 0 9 0 0 n (γ c),.v (.string Y2)] [.row η n 9 (J f) 112] (af 1)
 =Ω [Θ (0+n) n,ak n λq=>J f (0+q),ο (n<=274877906944)] (bif !e g then rO [AV.Ψ [i,AV.v (.string (a8 (bj [(110:ψ),(111:ψ),(10:ψ)])))]] h else Ω [p b,Θ (0+aW (a b)) 9223372036854775807,Θ (aW j+1) 9223372036854775807] (rO [AV.Ψ [i,AV.v (.string (ba j (a8 (bj [(10:ψ)]))))]] h)):=by intros;kernel_rfl
def K5(a:ρ->O)(b:Z->ρ->κ)(c:ρ->O->Z)(rd:Z->Z->κ->Z->E Wh)(d:Z->Z->κ->Z->κ):aE:=ext (ext g0 51 (am [.val,.val] (zX a b c))) 98 (am [.val,.val,.val,.val] (I_ rd d))
def arB(c:ρ->O)(f:Z->ρ->κ)(a:ρ->O->Z)(rd:Z->Z->κ->Z->E Wh)(g:Z->Z->κ->Z->κ)(s:ρ)(b:κ):let d:=(rd (a s 0) (a s 1) b (a s 2));let e:=(↑(c s):Z);ad θ (K5 c f a rd g) K 100 f49 [.v (.string s),.v (.bool b)] [] (af 0)
 =Ω [Δ (aW s) 4294967281] (bif !f (3:Z) s then rO [AV.Ψ [AV.own 0 0,vB η]] [AB.row ε 0 9 (λ_=>[]) 112]else Ω [ο ((0:Z)<e),ο (0<c s),ο ((1:Z)<e),ο (1<c s),ο ((2:Z)<e),ο (2<c s)] (rO [AV.Ψ [AV.own 0 (b_ d),AV.v (.bool (g (a s 0) (a s 1) b (a s 2)))]] [AB.row ε (b_ d) 9 (J (Y d)) 112])):=by intros;kernel_rfl
def iv(w:υ)(x:E Wh×E ψ)(e:jt)(w':υ):Prop:=∃s,e=.returned (.tuple #[s,.string ⟨(x.2++[10]).toArray⟩])/\bl w' s x.1/\Fr (aq w) w w'
def mU(L:E Wh)(x:χ (E Wh×E ψ)):E Wh×E ψ:=match x with
 |some y=>y
 |none=>(L,B6)
def Ab{Γ:aE}(u:aK θ Γ){v:τ}{L:E Wh}{w:υ}(hR:bl w v L)(ht:aY (aq w) w){z:ρ}{t:E ψ}(hex:∀c,aC (ad θ Γ K 100 HY [.sl 0 9 0 0 L.length (γ c),.v (.string z)] [.row η L.length 9 (J (Y L)) 112] (af 1)) (λ_ l H=>l=[.Ψ [.sl 0 9 0 0 L.length (γ c),.v (.string ⟨(t++[10]).toArray⟩)]]/\H.getD 0 .gone=.row η L.length 9 (J (Y L)) 112)):aH θ 13 #[v,.string z] w (iv w (L,t)):=by
 obtain⟨A,B,h2,h3⟩:=hR;have m:=h2;simp only[VR]at m;obtain⟨p,c,rfl,_,R,S⟩:=m;refine(nS (vals:=[.slice p L.length c,.string z]) (H:=[.row η L.length 9 (J (Y L)) 112]) (ν:=A) (M:=aq w) u mixed enters DV (dq _) (λk hk=>hk) (hex c).out ⟨?_,rfl,trivial⟩ ⟨λi=>?_,λi j b b' _ n=>?_,λi b n=>?_,λi b a=>(B i b a).2.1,ht⟩ (λi b a=>by have:=(B i b a).1;show i<1;omega)).mono ?_
 ·simp only[VR]
  exact⟨p,c,rfl,λc' e=>t_ e,R,S⟩
 ·cases i with
  |zero=>exact h3
  |succ i=>trivial
 ·cases i with
  |zero=>cases n
  |succ i=>cases n
 ·cases i with
  |zero=>cases n
  |succ i=>cases n
 ·rintro e w' ⟨x,av,H2,ν',rfl,⟨U,e0⟩,hv,C,d,D,_⟩
  simp only[lA,aa]at U;subst U;obtain⟨s,y,rfl,W,k2⟩:=Dd hv;rw[vV k2];refine⟨s,rfl,?_,d⟩;simp only[VR]at W;obtain⟨q,G,rfl,k3,k4,k5⟩:=W;obtain rfl:=k3 c rfl;have a:=C.br 0;simp only[e0]at a;cases f:A 0 with
  |none=>
   have I:G=0:=by
    rcases Nat.eq_zero_or_pos G with h|h
    ·exact h
    ·obtain⟨b,a,_⟩:=S h
     rw[f]at a;cases a
   subst I;have hL:L=[]:=Pb.1 (Nat.le_zero.1 R);subst hL;refine⟨λ_=>ζ,λi b h=>(by cases h),?_,.inl ⟨rfl,rfl,rfl⟩⟩;simp only[VR];exact⟨q,0,rfl,by simp,aR _,λh=>aO h (nF 0)⟩
  |some b=>
   obtain⟨_,N,q3⟩:=B 0 b f;have g:=D _ _ f;refine⟨λj=>if j=0 then γ b else ζ,λj b' r=>?_,?_,?_⟩
   ·simp only at r
    split at r
    ·cases r
     refine⟨by assumption,eE N d.size,?_⟩;obtain⟨l,P,k6⟩:=q3;exact⟨l,P,(d.block _ N (fY.2 N)).trans k6⟩
    ·cases r
   ·simp only[VR]
    refine⟨q,G,rfl,by simp,k4,λI=>?_⟩;obtain⟨b2,o,Q⟩:=k5 I;rw[g]at o;cases o;exact⟨b,by simp,Q⟩
   ·rcases a with⟨_,_,X⟩|⟨b2,l,t',P,o,Q⟩
    ·rw[g]at X
     cases X
    ·rw[g]at o
     cases o;exact .inr ⟨b,l,t',P,by simp,Q⟩
def afR:aK θ (SZ fM yI):=az bt VP
def FG:aK θ (FF bM vn jy jH eY fD):=az (az (az (az bt Ch) aki) akQ) ajV
def RD(L:E Wh):0<=eY L/\eY L<4294967296:=by
 unfold eY;cases fD L with
 |false=>simp
 |true=>
  show 0<=jF _ _ _/\jF _ _ _<4294967296
  unfold jF;rw[IntKind.wrap_u32];omega
def asl(b:ρ):b=a8 (bj b.data.toList):=rfl
def acb{v:τ}{L:E Wh}{w:υ}(b:bl w v L)(a:bH L)(d:aY (aq w) w):aH θ 13 #[v,.string Y1] w (iv w (mU L (vC L []))):=by
 refine Ab afR b d λc=>?_
 obtain⟨e,f,g⟩:=vl (dL a);have h:=Ys a;rw[aqi];simp only[bV,fo];refine ag ?_ (Φ ⟨?_,rfl⟩)
 ·simp only[F,ah,aa,e,f,g,bo,aT]
  omega
 ·rw[asl (fM L),sG]
def ab9{v:τ}{L:E Wh}{w:υ}(d:bl w v L)(a:bH L)(e:aY (aq w) w):aH θ 13 #[v,.string YU] w (iv w (mU L (uP L []))):=by
 refine Ab FG d e λc=>?_
 obtain⟨f,g,h⟩:=vl (dL a);have j:=KE a;have b:lu (jy L):=by omega
 have k:=gD b;have i:=iX b;rw[aqj];simp only[bV,fo,uz,sG,vd];refine ag ?_ (Φ ⟨?_,rfl⟩)
 ·simp only[F,ah,aa,f,g,h,i,bo,aT,cv,gm]
  omega
 ·simp only[mO]
def aca{v:τ}{L:E Wh}{w:υ}(d:bl w v L)(a:bH L)(e:aY (aq w) w):aH θ 13 #[v,.string YZ] w (iv w (mU L (vq L []))):=by
 refine Ab FG d e λc=>?_
 obtain⟨f,g,h⟩:=vl (dL a);have j:=MX a;have b:lu (jH L):=by omega
 have k:=gD b;have i:=iX b;rw[aqk];simp only[bV,fo,uz,sG,vd];refine ag ?_ (Φ ⟨?_,rfl⟩)
 ·simp only[F,ah,aa,f,g,h,i,bo,aT,cv,gm]
  omega
 ·simp only[mO]
def acd{v:τ}{L:E Wh}{w:υ}(a:bl w v L)(i:bH L)(b:aY (aq w) w):aH θ 13 #[v,.string Y2] w (iv w (mU L (qU L []))):=by
 obtain⟨d,e,f⟩:=vl (dL i);have l:=RD L;have g:lu (eY L):=by omega
 have m:=gD g;have j:=iX g;have k:aj a7 (eY L)=eY L:=bR (by omega);unfold qU;cases h:fD L with
 |false=>
  refine Ab FG a b λc=>?_
  rw[YD];simp only[bV,fo];refine ag (by simp only[F,ah,aa,d,e,f]) (eS (by rw[h];rfl) (Φ ⟨rfl,rfl⟩))
 |true=>
  refine Ab FG a b λc=>?_
  rw[YD];simp only[bV,fo,k,uz,sG,vd];refine ag (by simp only[F,ah,aa,d,e,f]) (cL (by rw[h];rfl) (ag ?_ (Φ ⟨?_,rfl⟩)))
  ·simp only[F,ah,aa,j,bo,aT,cv,gm]
   omega
  ·simp only[mO]
def iL(s:ρ)(b:κ):κ:=cP 3 s.data.toList&&fJ (aI s.data.toList 0) (aI s.data.toList 1) b (aI s.data.toList 2)
def jq(s:ρ)(b:κ):E Wh:=bif cP 3 s.data.toList then gy (aI s.data.toList 0) (aI s.data.toList 1) b (aI s.data.toList 2)else[]
def Jb(rt:ρ->κ->E Wh)(a:ρ->κ->κ):E SA->χ FR
 |[.v (.string s),.v (.bool b)]=>γ {val:=.Ψ [.own 0 (rt s b).length,.v (.bool (a s b))],new:=[.row ε (rt s b).length 9 (J (Y (rt s b))) 112],ap:=[Δ s.size 4294967281]}
 |_=>ζ
def agc:aK θ (K5 iJ jm nd gy fJ):=az (az bt MO) akV
def akZ:au θ 49 (am [.val,.val] (Jb jq iL)):=by
 refine bY agc func49 rfl λf i c g=>?_
 unfold Jb at c;split at c
 ·rename_i s b
  cases c;refine⟨[],K,100,ab.refl _,dq _,?_⟩;show aC (ad θ (K5 iJ jm nd gy fJ) K 100 f49 [.v (.string s),.v (.bool b)] [] (af 0)) _
  rw[arB];refine ag g (ay (λa=>?_) λa=>?_)
  ·have a:cP 3 s.data.toList=η:=by rw[<-nf];simpa using a
   have d:jq s b=[]:=by unfold jq;rw[a];rfl
   have e:iL s b=η:=by unfold iL;rw[a];rfl
   rw[d,e];exact Φ ⟨_,rfl,rfl,.cons (Ξ.row λj h=>aO h (cN _)) .nil⟩
  ·have a:cP 3 s.data.toList=ε:=by rw[<-nf];simpa using a
   have d:jq s b=gy (aI s.data.toList 0) (aI s.data.toList 1) b (aI s.data.toList 2):=by unfold jq;rw[a];rfl
   have e:iL s b=fJ (aI s.data.toList 0) (aI s.data.toList 1) b (aI s.data.toList 2):=by unfold iL;rw[a];rfl
   rw[ti a,qg a (show 0<3 by omega),qg a (show 1<3 by omega),qg a (show 2<3 by omega),d,e];exact ag (by decide) (Φ ⟨_,rfl,rfl,ab.refl _⟩)
 ·cases c
def Rt(s:ρ)(b:κ){w:υ}(a:aY (aq w) w)(hs:s.size<=1000):aH θ 49 #[.string s,.bool b] w (eX w (iL s b) (jq s b)):=by have e:am [.val,.val] (Jb jq iL) [.v (.string s),.v (.bool b)] [] 0=γ (dO 0 [] (iL s b) (jq s b) [Δ s.size 4294967281]):=rfl;refine(xf akZ [.string s,.bool b] e (by simp only[F,ah,aa,dO,bS];omega) rfl rfl a).mono ?_;rintro e j ⟨x,c,rfl,d,f,g,h⟩;exact Cn d (f 0 _ rfl) (λb i=>g 0 b (ft 0) i) h
def XR{A B:E Wh}(h:gO A B=ε):bH (iA A B)/\∀φ,oO φ->dc φ (iA A B)=dc φ A+dc φ B:=by
 have b:=XQ h;rw[gO,qC,qx,aM,aM]at h;obtain⟨⟨c,d⟩,e⟩:=h;have f:mc 2000000000000 (A++B):=λw g=>by
  rcases List.mem_append.1 g with h|h
  ·exact((MC c).mono (by omega)) w h
  ·exact((MC d).mono (by omega)) w h
 obtain⟨i,j⟩:=zf f e;refine⟨?_,λφ a=>?_⟩
 ·rw[iA,b]
  exact i
 ·rw[iA,b,za,j φ a,L9]
def aiX(a b:aQ):∀k,k<8->bE a (fA b) k=fA (bE a b) k:=by
 have c:fA b 0= -b 7:=rfl;have d:fA b 4=b 3+b 7:=rfl;have e:fA b 1=b 0:=rfl;have f:fA b 2=b 1:=rfl;have g:fA b 3=b 2:=rfl;have h:fA b 5=b 4:=rfl;have i:fA b 6=b 5:=rfl;have j:fA b 7=b 6:=rfl;refine lf ?_ ?_ ?_ ?_ ?_ ?_ ?_ ?_
 ·show bE a (fA b) 0= -bE a b 7
  simp only[bE,dm,c,e,f,g,d,h,i,j];grind
 ·show bE a (fA b) 1=bE a b 0
  simp only[bE,dm,c,e,f,g,d,h,i,j];grind
 ·show bE a (fA b) 2=bE a b 1
  simp only[bE,dm,c,e,f,g,d,h,i,j];grind
 ·show bE a (fA b) 3=bE a b 2
  simp only[bE,dm,c,e,f,g,d,h,i,j];grind
 ·show bE a (fA b) 4=bE a b 3+bE a b 7
  simp only[bE,dm,c,e,f,g,d,h,i,j];grind
 ·show bE a (fA b) 5=bE a b 4
  simp only[bE,dm,c,e,f,g,d,h,i,j];grind
 ·show bE a (fA b) 6=bE a b 5
  simp only[bE,dm,c,e,f,g,d,h,i,j];grind
 ·show bE a (fA b) 7=bE a b 6
  simp only[bE,dm,c,e,f,g,d,h,i,j];grind
def Mq(a b:aQ):∀(n k:O),k<8->bE a (cy b n) k=cy (bE a b) n k
 |0,_,_=>rfl
 |n+1,k,c=>by
  show bE a (fA (cy b n)) k=fA (cy (bE a b) n) k
  rw[aiX a (cy b n) k c];exact XO (Mq a b n) k c
def yb(a b:aQ):∀k,k<8->bE a b k=bE b a k:=by refine lf ?_ ?_ ?_ ?_ ?_ ?_ ?_ ?_<;>(simp only[bE,dm];grind)
def aiY(a b:aQ)(m n:O)(k:O)(d:k<8):bE (cy a m) (cy b n) k=cy (bE a b) (m+n) k:=by rw[Mq _ _ _ k d,<-Oi];refine zg (λj c=>?_) n k d;rw[yb _ _ j c,Mq _ _ _ j c];exact zg (yb b a) m j c
def aiZ(a b:aQ)(m n:Z)(k:O)(c:k<8):bE (io a m) (io b n) k=io (bE a b) (m+n) k:=by unfold io;rw[aiY _ _ _ _ k c];exact apO _ (by omega) k c
def adu(a f g:aQ):∀k,dm a (λj=>f j+g j) k=dm a f k+dm a g k:=λk=>by unfold dm;split<;>grind
def Vm(a f g:aQ):∀k,bE a (λj=>f j+g j) k=bE a f k+bE a g k:=λk=>by unfold bE;split<;>first|(simp only[adu];omega)|rfl
def Vo(a:aQ):∀k,bE a (λ_=>0) k=0:=λk=>by unfold bE;split<;>simp[dm]
def U0{φ:O->Z->(O->Z)->Z}(a:aQ):∀(L:E Wh)(k:O),bE a (λk=>dc (φ k) L) k=dc (λs f=>bE a (λk=>φ k s f) k) L
 |[],k=>Vo a k
 |w::l,k=>by
  show bE a (λk=>φ k w.s w.r.f+dc (φ k) l) k=_
  rw[Vm,U0 a l k];rfl
def al7{x y:Wh}(f: -1000<=x.s/\x.s<=1000)(g: -1000<=y.s/\y.s<=1000)(c:fb 1000000 x.r.f)(d:fb 1000000 y.r.f)(h:jo x y=ε):(fH x y).s=x.s+y.s/\(∀k,k<8->(fH x y).r.f k=bE x.r.f y.r.f k)/\fb 1000000 (fH x y).r.f:=by
 have b:gV x.r.f y.r.f=ε:=h;have e:jJ x.r.f y.r.f=ep x.r.f y.r.f:=by rw[jJ,b];rfl
 refine⟨bR (by omega),λk a=>?_,λk a=>?_⟩
 ·show(bC (jJ x.r.f y.r.f)).f k=_
  rw[Aq _ k a,e];exact W8 (aiW c d) (by omega) k a
 ·show _<=(bC (jJ x.r.f y.r.f)).f k/\(bC (jJ x.r.f y.r.f)).f k<=_
  rw[gV,aM]at b;rw[e];exact J0 b.2 k a
def WC{t:Z}{k:O}(a:k<8):∀{A B:E Wh},(∀x∈A,∀y∈B,(fH x y).s=x.s+y.s/\(∀k,k<8->(fH x y).r.f k=bE x.r.f y.r.f k))->dc (wV t k) (cQ A B)=bE (oW A t) (oW B t) k
 |[],B,_=>by
  show(0:Z)=bE (λk=>0) (oW B t) k
  rw[yb _ _ k a,Vo]
 |x::A,B,h=>by
  have e:cQ (x::A) B=B.map (fH x)++cQ A B:=rfl;rw[e,L9,WC a λd b y c=>h d (by simp[b]) y c];have g:dc (wV t k) (B.map (fH x))=dc (λs f=>bE (io x.r.f (t*x.s)) (io f (t*s)) k) B:=UZ λy c=>by
   obtain⟨i,j⟩:=h x (by simp) y c;rw[i];show io (fH x y).r.f (t*(x.s+y.s)) k=bE (io x.r.f (t*x.s)) (io y.r.f (t*y.s)) k
   rw[aiZ _ _ _ _ k a,apM j _ k a,Int.mul_add]
  have l:dc (λs f=>bE (io x.r.f (t*x.s)) (io f (t*s)) k) B=bE (io x.r.f (t*x.s)) (oW B t) k:=(U0 (φ:=wV t) (io x.r.f (t*x.s)) B k).symm;have m:oW (x::A) t=λk=>io x.r.f (t*x.s) k+oW A t k:=rfl
  rw[g,l,m,yb _ _ k a,yb (oW A t) _ k a,yb (λk=>io x.r.f (t*x.s) k+oW A t k) _ k a];exact(Vm _ _ _ k).symm
def Yy{A B:E Wh}(h:fs A B=ε):bH (iB A B)/\∀(t:Z)(k:O),k<8->oW (iB A B) t k=bE (oW A t) (oW B t) k:=by
 have g:=Yx h;rw[fs,pr,aM,aM,aM]at h;obtain⟨⟨⟨d,e⟩,i⟩,j⟩:=h;have c:∀x∈A,∀y∈B,(fH x y).s=x.s+y.s/\(∀k,k<8->(fH x y).r.f k=bE x.r.f y.r.f k)/\fb 1000000 (fH x y).r.f:=λx a y b=>al7 (vm d a).1 (vm e b).1 (vm d a).2.1 (vm e b).2.1 (bX.1 (bX.1 i x a) y b)
 have l:mc 2000000000000 (cQ A B):=λw f=>by simp only[cQ,List.mem_flatMap,List.mem_map]at f;obtain⟨x,a,y,b,rfl⟩:=f;exact(c x a y b).2.2.mono (by omega)
 obtain⟨m,n⟩:=zf l j;rw[g];exact⟨m,λt k o=>(n _ (abx t k)).trans (WC o λx a y b=>⟨(c x a y b).1,(c x a y b).2.1⟩)⟩
def z7(L:E Wh)(r:E ψ):χ (E Wh×E ψ):=bif dF ⟨r.toArray⟩&&gO L (bZ ⟨r.toArray⟩)then γ (iA L (bZ ⟨r.toArray⟩),[111,107])else ζ
def ac7:jg 19 z7:=λ{D L} s {w} l t z P=>by
 have mixed:=mixed;obtain⟨p,n,c,A,B⟩:=id l;have C:w.drew.cell? ⟨D,0,ζ⟩=γ (.slice p n c):=by rw[gR w.drew D 0 #[.slice p n c] _ (0,0) A];rfl
 have b:=JP s (t.nw.fh (fd w));have Q:=λd (f:Fr (aq w.drew) w.drew d)=>de.die (L:=L) l ((fd w).trans f)
 have G:=λd (v:τ)(f:Fr (aq w.drew) w.drew d)(h:bl d v (bZ s))=>abZ (B.below ((fd w).trans f)) h z (zc s) ((t.nw.fh ((fd w).trans f)))
 have H:∀(d m:υ)(v:τ),Fr (aq w.drew) w.drew d->Fr (aq d) d m->(gO L (bZ s)=ε->bl m v (iA L (bZ s)))->aH θ 62 #[.pointer (γ ⟨D,0,ζ⟩),v,.bool (gO L (bZ s))] m (de D L (bif gO L (bZ s)then γ (iA L (bZ s),[111,107])else ζ) w):=λd m v f g h=>(sF (l.fr (dh ((fd w).trans f) g)) h (λh=>(XR h).1)).mono λe x h=>h.after (dh ((fd w).trans f) g)
 unfold z7;rw[show(a8 s.data.toList.toArray)=s from pR rfl];cases y:dF s with
 |false=>
  rw[y]at b;rw[ly,a_];clear G H l B z P A y t
  go_enter func19,ntmps19
  go_wp2
  rename_i U o;refine pu [6] (λx=>x.cell? ⟨D,0,ζ⟩=γ (.slice p n c)) (by kernel_rfl) ?_;refine ck 0 (.pointer (γ ⟨D,0,ζ⟩)) ?_;refine ck 5 (.string s) ?_;refine ck 1 (.pointer (γ ⟨D,0,ζ⟩)) ?_;refine ck 2 (.pointer (γ ⟨D,0,ζ⟩)) ?_;refine ck 3 (.pointer (γ ⟨D,0,ζ⟩)) ?_;refine pt [7,8,9,10,11] (i:=4) (v:=.slice p n c) rfl rfl (by kernel_rfl) (by kernel_rfl) (by kernel_rfl) (λ_ _ _ h=>h) (kr ⟨by rfl,λW I=>by simp[go_sem,dl,I]⟩) C ?_;simp only[jb,l4];refine gq (k:=6) (by kernel_rfl) rfl rfl (λa j=>?_);go_simp;refine b.mono ?_;rintro e d ⟨M,r⟩;obtain rfl:=M;exact⟨rfl,Q _ r⟩
 |true=>
  rw[y]at b;rw[dD];generalize gO L (bZ s)=q at*;generalize iA L (bZ s)=T at*;generalize bZ s=R at*;clear l B z P A y t Q
  go_enter func19,ntmps19
  go_wp2
  rename_i U o;refine pu [6] (λx=>x.cell? ⟨D,0,ζ⟩=γ (.slice p n c)) (by kernel_rfl) ?_;refine ck 0 (.pointer (γ ⟨D,0,ζ⟩)) ?_;refine ck 5 (.string s) ?_;refine ck 1 (.pointer (γ ⟨D,0,ζ⟩)) ?_;refine ck 2 (.pointer (γ ⟨D,0,ζ⟩)) ?_;refine ck 3 (.pointer (γ ⟨D,0,ζ⟩)) ?_;refine pt [7,8,9,10,11] (i:=4) (v:=.slice p n c) rfl rfl (by kernel_rfl) (by kernel_rfl) (by kernel_rfl) (λ_ _ _ h=>h) (kr ⟨by rfl,λW I=>by simp[go_sem,dl,I]⟩) C ?_;simp only[jb,l4];refine gq (k:=6) (by kernel_rfl) rfl rfl (λa j=>?_);go_simp;refine b.mono ?_;rintro e d ⟨⟨u,M,X⟩,r⟩;obtain rfl:=M;have c2:=xc C r;clear b;refine j.out _ _ (λ_=>c2) ?_;clear j a;refine gq (k:=7) (by kernel_rfl) rfl rfl (λa j=>?_);go_simp;refine(G _ u r X).mono ?_;rintro e m ⟨v,rfl,h2,f2⟩;refine j.out _ _ (λh=>aO h (by decide)) ?_;clear j a G;refine ck 8 v ?_;refine ck 9 (.bool q) ?_;simp only[jb,l4];refine gq (k:=10) (by kernel_rfl) rfl rfl (λa j=>?_);go_simp;refine(H _ _ v r f2 h2).mono ?_;rintro e w3 S;cases q with
  |false=>obtain⟨rfl,N⟩:=S.qk;exact⟨rfl,N⟩
  |true=>
   obtain⟨rfl,N⟩:=S.po;refine j.out _ _ (λh=>aO h (by decide)) ?_;clear j a H;refine ck 11 (.string tf) ?_;refine z_ (by kernel_rfl) ?_;go_simp;apply o
   go_wp2
   go_ret
   exact N
def Da(L:E Wh)(r:E ψ):χ (E Wh×E ψ):=bif dF ⟨r.toArray⟩&&fs L (bZ ⟨r.toArray⟩)then γ (iB L (bZ ⟨r.toArray⟩),[111,107])else ζ
def adp:jg 20 Da:=λ{D L} s {w} l t z P=>by
 have mixed:=mixed;obtain⟨p,n,c,A,B⟩:=id l;have C:w.drew.cell? ⟨D,0,ζ⟩=γ (.slice p n c):=by rw[gR w.drew D 0 #[.slice p n c] _ (0,0) A];rfl
 have b:=JP s (t.nw.fh (fd w));have Q:=λd (f:Fr (aq w.drew) w.drew d)=>de.die (L:=L) l ((fd w).trans f)
 have G:=λd (v:τ)(f:Fr (aq w.drew) w.drew d)(h:bl d v (bZ s))=>ab0 (B.below ((fd w).trans f)) h z (zc s) ((t.nw.fh ((fd w).trans f)))
 have H:∀(d m:υ)(v:τ),Fr (aq w.drew) w.drew d->Fr (aq d) d m->(fs L (bZ s)=ε->bl m v (iB L (bZ s)))->aH θ 62 #[.pointer (γ ⟨D,0,ζ⟩),v,.bool (fs L (bZ s))] m (de D L (bif fs L (bZ s)then γ (iB L (bZ s),[111,107])else ζ) w):=λd m v f g h=>(sF (l.fr (dh ((fd w).trans f) g)) h (λh=>(Yy h).1)).mono λe x h=>h.after (dh ((fd w).trans f) g)
 unfold Da;rw[show(a8 s.data.toList.toArray)=s from pR rfl];cases y:dF s with
 |false=>
  rw[y]at b;rw[ly,a_];clear G H l B z P A y t
  go_enter func20,ntmps20
  go_wp2
  rename_i U o;refine pu [6] (λx=>x.cell? ⟨D,0,ζ⟩=γ (.slice p n c)) (by kernel_rfl) ?_;refine ck 0 (.pointer (γ ⟨D,0,ζ⟩)) ?_;refine ck 5 (.string s) ?_;refine ck 1 (.pointer (γ ⟨D,0,ζ⟩)) ?_;refine ck 2 (.pointer (γ ⟨D,0,ζ⟩)) ?_;refine ck 3 (.pointer (γ ⟨D,0,ζ⟩)) ?_;refine pt [7,8,9,10,11] (i:=4) (v:=.slice p n c) rfl rfl (by kernel_rfl) (by kernel_rfl) (by kernel_rfl) (λ_ _ _ h=>h) (kr ⟨by rfl,λW I=>by simp[go_sem,dl,I]⟩) C ?_;simp only[jb,l4];refine gq (k:=6) (by kernel_rfl) rfl rfl (λa j=>?_);go_simp;refine b.mono ?_;rintro e d ⟨M,r⟩;obtain rfl:=M;exact⟨rfl,Q _ r⟩
 |true=>
  rw[y]at b;rw[dD];generalize fs L (bZ s)=q at*;generalize iB L (bZ s)=T at*;generalize bZ s=R at*;clear l B z P A y t Q
  go_enter func20,ntmps20
  go_wp2
  rename_i U o;refine pu [6] (λx=>x.cell? ⟨D,0,ζ⟩=γ (.slice p n c)) (by kernel_rfl) ?_;refine ck 0 (.pointer (γ ⟨D,0,ζ⟩)) ?_;refine ck 5 (.string s) ?_;refine ck 1 (.pointer (γ ⟨D,0,ζ⟩)) ?_;refine ck 2 (.pointer (γ ⟨D,0,ζ⟩)) ?_;refine ck 3 (.pointer (γ ⟨D,0,ζ⟩)) ?_;refine pt [7,8,9,10,11] (i:=4) (v:=.slice p n c) rfl rfl (by kernel_rfl) (by kernel_rfl) (by kernel_rfl) (λ_ _ _ h=>h) (kr ⟨by rfl,λW I=>by simp[go_sem,dl,I]⟩) C ?_;simp only[jb,l4];refine gq (k:=6) (by kernel_rfl) rfl rfl (λa j=>?_);go_simp;refine b.mono ?_;rintro e d ⟨⟨u,M,X⟩,r⟩;obtain rfl:=M;have c2:=xc C r;clear b;refine j.out _ _ (λ_=>c2) ?_;clear j a;refine gq (k:=7) (by kernel_rfl) rfl rfl (λa j=>?_);go_simp;refine(G _ u r X).mono ?_;rintro e m ⟨v,rfl,h2,f2⟩;refine j.out _ _ (λh=>aO h (by decide)) ?_;clear j a G;refine ck 8 v ?_;refine ck 9 (.bool q) ?_;simp only[jb,l4];refine gq (k:=10) (by kernel_rfl) rfl rfl (λa j=>?_);go_simp;refine(H _ _ v r f2 h2).mono ?_;rintro e w3 S;cases q with
  |false=>obtain⟨rfl,N⟩:=S.qk;exact⟨rfl,N⟩
  |true=>
   obtain⟨rfl,N⟩:=S.po;refine j.out _ _ (λh=>aO h (by decide)) ?_;clear j a H;refine ck 11 (.string tf) ?_;refine z_ (by kernel_rfl) ?_;go_simp;apply o
   go_wp2
   go_ret
   exact N
def sD(L:E Wh)(_:E ψ):χ (E Wh×E ψ):=bif yB L then γ (tB L,[111,107])else ζ
def ac_:jg 26 sD:=λ{D L} s {w} b i j r=>by
 have mixed:=mixed;obtain⟨p,n,c,k,l⟩:=id b;have y:w.cell? ⟨D,0,ζ⟩=γ (.slice p n c):=by rw[gR w D 0 #[.slice p n c] _ (0,0) k];rfl
 have m:=abV l j i.nw;have o:∀(a:υ)(v:τ),Fr (aq w) w a->(yB L=ε->bl a v (tB L))->aH θ 62 #[.pointer (γ ⟨D,0,ζ⟩),v,.bool (yB L)] a (de D L (bif yB L then γ (tB L,[111,107])else ζ) w):=λa v f h=>(sF (b.fr f) h λh=>qY (by omega) h).mono λe z h=>h.after f
 unfold sD;generalize yB L=q at*;generalize tB L=T at*;clear b i j r k l;cases q with
 |false=>
  go_enter func26,ntmps26
  go_wp2_with (first|(go_at_call 71;refine m.mono ?_;rintro e a ⟨v,rfl,t,u⟩)|(go_at_call 62;refine(o _ _ ‹_› ‹_›).mono ?_;rintro e x d;obtain⟨rfl,g⟩:=d.qk))
  exact⟨rfl,g⟩
 |true=>
  go_enter func26,ntmps26
  go_wp2_with (first|(go_at_call 71;refine m.mono ?_;rintro e a ⟨v,rfl,t,u⟩)|(go_at_call 62;refine(o _ _ ‹_› ‹_›).mono ?_;rintro e x d;obtain⟨rfl,g⟩:=d.po))
  go_ret
  exact g
def ta(L:E Wh)(_:E ψ):χ (E Wh×E ψ):=bif yM L then γ (tM L,[111,107])else ζ
def adg:jg 27 ta:=λ{D L} s {w} b i j r=>by
 have mixed:=mixed;obtain⟨p,n,c,k,l⟩:=id b;have y:w.cell? ⟨D,0,ζ⟩=γ (.slice p n c):=by rw[gR w D 0 #[.slice p n c] _ (0,0) k];rfl
 have m:=abY l j i.nw;have o:∀(a:υ)(v:τ),Fr (aq w) w a->(yM L=ε->bl a v (tM L))->aH θ 62 #[.pointer (γ ⟨D,0,ζ⟩),v,.bool (yM L)] a (de D L (bif yM L then γ (tM L,[111,107])else ζ) w):=λa v f h=>(sF (b.fr f) h λh=>qY (by omega) h).mono λe z h=>h.after f
 unfold ta;generalize yM L=q at*;generalize tM L=T at*;clear b i j r k l;cases q with
 |false=>
  go_enter func27,ntmps27
  go_wp2_with (first|(go_at_call 72;refine m.mono ?_;rintro e a ⟨v,rfl,t,u⟩)|(go_at_call 62;refine(o _ _ ‹_› ‹_›).mono ?_;rintro e x d;obtain⟨rfl,g⟩:=d.qk))
  exact⟨rfl,g⟩
 |true=>
  go_enter func27,ntmps27
  go_wp2_with (first|(go_at_call 72;refine m.mono ?_;rintro e a ⟨v,rfl,t,u⟩)|(go_at_call 62;refine(o _ _ ‹_› ‹_›).mono ?_;rintro e x d;obtain⟨rfl,g⟩:=d.po))
  go_ret
  exact g
def eX.yes{w:υ}{T:E Wh}{e:jt}{w':υ}(h:eX w ε T e w'):∃s,e=.returned (.tuple #[s,.bool ε])/\bl w' s T/\Fr (aq w) w w':=by obtain⟨s,a,b,c⟩:=h;exact⟨s,a,b rfl,c⟩
def eX.no{w:υ}{T:E Wh}{e:jt}{w':υ}(h:eX w η T e w'):∃s,e=.returned (.tuple #[s,.bool η])/\Fr (aq w) w w':=by obtain⟨s,a,_,b⟩:=h;exact⟨s,a,b⟩
def Rn{f:bq}{y:E Wh->E Wh->κ}{t:E Wh->E Wh->E Wh}(h:au θ f (am kB (wN y t))){v d:τ}{A B:E Wh}{w:υ}(g:bl w v A)(a:bl w d B)(i:A.length<=12)(c:B.length<=12)(j:aY (aq w) w):aH θ f #[v,d] w (eX w (y A B) (t A B)):=by have e:am kB (wN y t) [.sl 0 9 0 0 A.length ζ,.sl 1 9 0 0 B.length ζ] [.row η A.length 9 (J (Y A)) 112,.row η B.length 9 (J (Y B)) 112] 2=γ (dO 2 [0,1] (y (ex A) (ex B)) (t (ex A) (ex B)) (Θ (0+A.length) A.length::(Θ (0+B.length) B.length::([ak A.length (λq=>J (Y A) (0+q)),ak B.length (λq=>J (Y B) (0+q)),ο (A.length<=2^38),ο (B.length<=2^38)]++[])))):=rfl;rw[ic,ic]at e;refine(Aw h g a e (Cb i c _) rfl rfl j).mono ?_;rintro e r ⟨x,k,rfl,l,m,n,o⟩;exact Cn l (m 0 _ rfl) (λb p=>n 0 b (ft 0) p) o
def JN(s:ρ)(k:Z){w:υ}(i:aY (aq w) w)(hs:s.size<=1000):aH θ 51 #[.string s,ι k] w λe w'=>(∃g c,e=.returned (.tuple #[.slice (γ ⟨g,0,ζ⟩) (iJ s) c,.bool (jm k s)])/\iJ s<=c/\∀j,j<iJ s->w'.cell? ⟨g,j,ζ⟩=γ (ι (nd s j)))/\Fr (aq w) w w':=by
 have e:am [.val,.val] (zX iJ jm nd) [.v (.string s),.v (ι k)] [] 0=γ {val:=.Ψ [.own 0 (iJ s),.v (.bool (jm k s))],rd:=[],put:=[],new:=[.row ε (iJ s) 1 (pj (nd s)) 3],ap:=[Δ s.size 4294967281]}:=rfl;refine(xf MO [.string s,ι k] e (by simp only[F,ah,aa,bS];omega) rfl rfl i).mono ?_;rintro e w' ⟨x,r,rfl,t,u,M,v⟩;obtain⟨a,y,rfl,b,z⟩:=Dd t;rw[vV z];simp only[VR]at b;obtain⟨q,A,rfl⟩:=b;have B:=u 0 _ rfl;rcases B with⟨h,_⟩|⟨N,l,P,Q,d,C,D,G,H⟩
 ·cases h
 ·rw[Nat.add_zero,A]at d
  cases d;obtain⟨rfl,f,rfl,R,S⟩:=D rfl;refine⟨⟨q.n,q.c,by rw[f],G,λj I=>?_⟩,v⟩;rw[oU C];have:=(H j I).2 0 (by omega);rw[f]at this;simpa using this
def ab8{v:τ}{L:E Wh}{n:ρ}{w:υ}(p:n.toList=[98,97,99,107])(d:bl w v L)(j:bH L)(k:aY (aq w) w):aH θ 13 #[v,.string n] w (iv w (mU L (sD L []))):=by
 have mixed:=mixed;have g:=JK VH d (dL j) k;have b:∀a s,Fr (aq w) w a->bl a s (tB L)->iv w (tB L,[111,107]) (.returned (.tuple #[s,.string ⟨#[111,107,10]⟩])) a:=λa s f h=>⟨s,rfl,h,f⟩
 have c:∀a,Fr (aq w) w a->iv w (L,B6) (.returned (.tuple #[v,.string ⟨#[110,111,10]⟩])) a:=λa f=>⟨v,rfl,d.below f,f⟩
 unfold sD;cases i:yB L with
 |true=>
  rw[i]at g;simp only[aZ,mU];clear d j k i c
  go_enter DV,H5
  go_wp2_with (go_at_call 39;refine g.mono ?_;rintro e a l;obtain⟨s,rfl,o,m⟩:=l.yes)
  refine fZ (v:=.tuple #[s,.string ⟨#[111,107,10]⟩]) ?_ rfl (b _ _ m o);simp[results,H6,go_sem]
 |false=>
  rw[i]at g;simp only[a_,mU];clear d j k i b
  go_enter DV,H5
  go_wp2_with (go_at_call 39;refine g.mono ?_;rintro e a l;obtain⟨s,rfl,m⟩:=l.no)
  refine fZ (v:=.tuple #[v,.string ⟨#[110,111,10]⟩]) ?_ rfl (c _ m);simp[results,H6,go_sem]
def ab_{v:τ}{L:E Wh}{o:ρ}{w:υ}(u:o.toList=[109,105,114,114,111,114])(c:bl w v L)(i:bH L)(j:aY (aq w) w):aH θ 13 #[v,.string o] w (iv w (mU L (ta L []))):=by
 have mixed:=mixed;have p:=JK VH c (dL i) j;have b:=λa (f:Fr (aq w) w a)=>JK akK (c.below f) (dL i) (j.fh f)
 have d:∀a s,Fr (aq w) w a->bl a s (tM L)->iv w (tM L,[111,107]) (.returned (.tuple #[s,.string ⟨#[111,107,10]⟩])) a:=λa s f h=>⟨s,rfl,h,f⟩
 have g:∀a,Fr (aq w) w a->iv w (L,B6) (.returned (.tuple #[v,.string ⟨#[110,111,10]⟩])) a:=λa f=>⟨v,rfl,c.below f,f⟩
 unfold ta;cases k:yM L with
 |true=>
  replace b:∀a,Fr (aq w) w a->aH θ 40 #[v] a (eX a ε (tM L)):=λa f=>by have:=b a f;rwa [k]at this
  simp only[aZ,mU];clear c i j k g
  go_enter DV,H5
  go_wp2_with (first|(go_at_call 39;refine p.mono ?_;rintro e a ⟨q,rfl,_,l⟩)|(go_at_call 40;refine(b _ ‹_›).mono ?_;rintro e r m;obtain⟨s,rfl,t,n⟩:=m.yes))
  refine fZ (v:=.tuple #[s,.string ⟨#[111,107,10]⟩]) ?_ rfl (d _ _ (dh l n) t);simp[results,H6,go_sem]
 |false=>
  replace b:∀a,Fr (aq w) w a->aH θ 40 #[v] a (eX a η (tM L)):=λa f=>by have:=b a f;rwa [k]at this
  simp only[a_,mU];clear c i j k d
  go_enter DV,H5
  go_wp2_with (first|(go_at_call 39;refine p.mono ?_;rintro e a ⟨q,rfl,_,l⟩)|(go_at_call 40;refine(b _ ‹_›).mono ?_;rintro e r m;obtain⟨s,rfl,n⟩:=m.no))
  refine fZ (v:=.tuple #[v,.string ⟨#[110,111,10]⟩]) ?_ rfl (g _ (dh l n));simp[results,H6,go_sem]
def ab'{v:τ}{L:E Wh}{a:ρ}{w:υ}(d:(a.toList==[98,97,99,107])=η)(e:(a.toList==[109,105,114,114,111,114])=η)(f:(a.toList==[115,104,111,119])=η)(g:(a.toList==[102,111,108,100])=η)(h:(a.toList==[112,101,114,105,111,100])=η)(i:(a.toList==[115,117,109])=η)(c:bl w v L):aH θ 13 #[v,.string a] w (iv w (L,[119,104,97,116])):=by
 have mixed:=mixed;have b:iv w (L,[119,104,97,116]) (.returned (.tuple #[v,.string ⟨#[119,104,97,116,10]⟩])) w:=⟨v,rfl,c,Fr.refl _ _⟩;clear c
 go_enter DV,H5
 go_wp2
 refine fZ (v:=.tuple #[v,.string ⟨#[119,104,97,116,10]⟩]) ?_ rfl (b);simp[results,H6,go_sem]
def acH{v:τ}{L:E Wh}{y:ρ}(s:ρ){w:υ}(D:y.toList=[116,117,114,110])(m:bl w v L)(n:bH L)(j:aY (aq w) w)(hs:s.size<=1000):aH θ 50 #[v,.string y,.string s] w (eX w (cP 1 s.data.toList&&yT (aI s.data.toList 0) L) (tT (aI s.data.toList 0) L)):=by
 have mixed:=mixed;have d:=JN s 1 j hs;have k:=λx b (f:Fr (aq w) w b)=>JL alp x (m.below f) (dL n) (j.fh f)
 rw[show(1:Z)=((1:O):Z)from rfl,nf]at d;cases h:cP 1 s.data.toList with
 |false=>
  rw[h]at d;rw[ly];have o:∀b,Fr (aq w) w b->eX w η (tT (aI s.data.toList 0) L) (.returned (.tuple #[v,.bool η])) b:=λb f=>⟨v,rfl,λh=>(by cases h),f⟩
  clear m n j hs h k
  go_enter DW,DX
  go_wp2_with (go_at_call 51;refine d.mono ?_;rintro e b ⟨⟨g,c,rfl,_,_⟩,p⟩)
  refine fZ (v:=.tuple #[v,.bool η]) ?_ rfl (o _ p);simp[results,DY,go_sem]
 |true=>
  rw[h]at d;rw[dD];have z:=ti h;have A:=qg h (nI);rw[z]at d
  replace d:aH θ 51 #[.string s,ι 1] w λe q=>∃g c,e=.returned (.tuple #[.slice (γ ⟨g,0,ζ⟩) 1 c,.bool ε])/\q.cell? ⟨g,0,ζ⟩=γ (ι (aI s.data.toList 0))/\Fr (aq w) w q:=d.mono λe q ⟨⟨g,c,r,_,i⟩,C⟩=>⟨g,c,r,by rw[<-A];exact i 0 (nI),C⟩
  have t:∀b e l,Fr (aq w) w b->eX b (yT (aI s.data.toList 0) L) (tT (aI s.data.toList 0) L) e l->eX w (yT (aI s.data.toList 0) L) (tT (aI s.data.toList 0) L) e l:=λb e l f ⟨s,r,u,i⟩=>⟨s,r,u,dh f i⟩
  replace k:=λb f=>k (aI s.data.toList 0) b f
  clear m n j hs h z A;generalize yT (aI s.data.toList 0) L=a at*;generalize tT (aI s.data.toList 0) L=T at*;generalize aI s.data.toList 0=x at*
  go_enter DW,DX
  go_wp2_with (first|(go_at_call 51;refine d.mono ?_;rintro e b ⟨g,c,rfl,G,p⟩)|(go_at_call 99;refine(k _ ‹_›).mono ?_;rintro e l ⟨B,rfl,u,i⟩))
  refine fZ (v:=.tuple #[B,.bool a]) ?_ rfl (t _ _ _ p ⟨B,rfl,u,i⟩);simp[results,DY,go_sem]
def acG{v:τ}{L:E Wh}{y:ρ}(s:ρ){w:υ}(D:y.toList=[108,97,116,101,114])(m:bl w v L)(n:bH L)(j:aY (aq w) w)(hs:s.size<=1000):aH θ 50 #[v,.string y,.string s] w (eX w (cP 1 s.data.toList&&yL (aI s.data.toList 0) L) (tL (aI s.data.toList 0) L)):=by
 have mixed:=mixed;have d:=JN s 1 j hs;have k:=λx b (f:Fr (aq w) w b)=>JL akG x (m.below f) (dL n) (j.fh f)
 rw[show(1:Z)=((1:O):Z)from rfl,nf]at d;cases h:cP 1 s.data.toList with
 |false=>
  rw[h]at d;rw[ly];have o:∀b,Fr (aq w) w b->eX w η (tL (aI s.data.toList 0) L) (.returned (.tuple #[v,.bool η])) b:=λb f=>⟨v,rfl,λh=>(by cases h),f⟩
  clear m n j hs h k
  go_enter DW,DX
  go_wp2_with (go_at_call 51;refine d.mono ?_;rintro e b ⟨⟨g,c,rfl,_,_⟩,p⟩)
  refine fZ (v:=.tuple #[v,.bool η]) ?_ rfl (o _ p);simp[results,DY,go_sem]
 |true=>
  rw[h]at d;rw[dD];have z:=ti h;have A:=qg h (nI);rw[z]at d
  replace d:aH θ 51 #[.string s,ι 1] w λe q=>∃g c,e=.returned (.tuple #[.slice (γ ⟨g,0,ζ⟩) 1 c,.bool ε])/\q.cell? ⟨g,0,ζ⟩=γ (ι (aI s.data.toList 0))/\Fr (aq w) w q:=d.mono λe q ⟨⟨g,c,r,_,i⟩,C⟩=>⟨g,c,r,by rw[<-A];exact i 0 (nI),C⟩
  have t:∀b e l,Fr (aq w) w b->eX b (yL (aI s.data.toList 0) L) (tL (aI s.data.toList 0) L) e l->eX w (yL (aI s.data.toList 0) L) (tL (aI s.data.toList 0) L) e l:=λb e l f ⟨s,r,u,i⟩=>⟨s,r,u,dh f i⟩
  replace k:=λb f=>k (aI s.data.toList 0) b f
  clear m n j hs h z A;generalize yL (aI s.data.toList 0) L=a at*;generalize tL (aI s.data.toList 0) L=T at*;generalize aI s.data.toList 0=x at*
  go_enter DW,DX
  go_wp2_with (first|(go_at_call 51;refine d.mono ?_;rintro e b ⟨g,c,rfl,G,p⟩)|(go_at_call 100;refine(k _ ‹_›).mono ?_;rintro e l ⟨B,rfl,u,i⟩))
  refine fZ (v:=.tuple #[B,.bool a]) ?_ rfl (t _ _ _ p ⟨B,rfl,u,i⟩);simp[results,DY,go_sem]
def acF{v:τ}{L:E Wh}{y:ρ}(s:ρ){w:υ}(D:y.toList=[102,97,115,116,101,114])(m:bl w v L)(n:bH L)(j:aY (aq w) w)(hs:s.size<=1000):aH θ 50 #[v,.string y,.string s] w (eX w (cP 1 s.data.toList&&yF (aI s.data.toList 0) L) (tF (aI s.data.toList 0) L)):=by
 have mixed:=mixed;have d:=JN s 1 j hs;have k:=λx b (f:Fr (aq w) w b)=>JL akf x (m.below f) (dL n) (j.fh f)
 rw[show(1:Z)=((1:O):Z)from rfl,nf]at d;cases h:cP 1 s.data.toList with
 |false=>
  rw[h]at d;rw[ly];have o:∀b,Fr (aq w) w b->eX w η (tF (aI s.data.toList 0) L) (.returned (.tuple #[v,.bool η])) b:=λb f=>⟨v,rfl,λh=>(by cases h),f⟩
  clear m n j hs h k
  go_enter DW,DX
  go_wp2_with (go_at_call 51;refine d.mono ?_;rintro e b ⟨⟨g,c,rfl,_,_⟩,p⟩)
  refine fZ (v:=.tuple #[v,.bool η]) ?_ rfl (o _ p);simp[results,DY,go_sem]
 |true=>
  rw[h]at d;rw[dD];have z:=ti h;have A:=qg h (nI);rw[z]at d
  replace d:aH θ 51 #[.string s,ι 1] w λe q=>∃g c,e=.returned (.tuple #[.slice (γ ⟨g,0,ζ⟩) 1 c,.bool ε])/\q.cell? ⟨g,0,ζ⟩=γ (ι (aI s.data.toList 0))/\Fr (aq w) w q:=d.mono λe q ⟨⟨g,c,r,_,i⟩,C⟩=>⟨g,c,r,by rw[<-A];exact i 0 (nI),C⟩
  have t:∀b e l,Fr (aq w) w b->eX b (yF (aI s.data.toList 0) L) (tF (aI s.data.toList 0) L) e l->eX w (yF (aI s.data.toList 0) L) (tF (aI s.data.toList 0) L) e l:=λb e l f ⟨s,r,u,i⟩=>⟨s,r,u,dh f i⟩
  replace k:=λb f=>k (aI s.data.toList 0) b f
  clear m n j hs h z A;generalize yF (aI s.data.toList 0) L=a at*;generalize tF (aI s.data.toList 0) L=T at*;generalize aI s.data.toList 0=x at*
  go_enter DW,DX
  go_wp2_with (first|(go_at_call 51;refine d.mono ?_;rintro e b ⟨g,c,rfl,G,p⟩)|(go_at_call 101;refine(k _ ‹_›).mono ?_;rintro e l ⟨B,rfl,u,i⟩))
  refine fZ (v:=.tuple #[B,.bool a]) ?_ rfl (t _ _ _ p ⟨B,rfl,u,i⟩);simp[results,DY,go_sem]
def gp(w:υ)(b a:κ)(T:E Wh)(e:jt)(w':υ):Prop:=∃s,e=.returned (.tuple #[s,.bool b,.bool a])/\(a=ε->bl w' s T)/\Fr (aq w) w w'
def ack{v:τ}{L:E Wh}{m:ρ}(s:ρ){w:υ}(q:m.toList=[115,101,116])(_:bl w v L)(_:bH L)(g:aY (aq w) w)(_:s.size<=1000):aH θ 14 #[v,.string m,.string s] w (gp w ε (dF s) (bZ s)):=by
 have mixed:=mixed;have c:=JO s g;obtain⟨n,o⟩:=M7 s;rw[n,o]at c;clear n o;cases d:dF s with
 |false=>
  rw[d]at c;have i:∀a,Fr (aq w) w a->gp w ε η (bZ s) (.returned (.tuple #[v,.bool ε,.bool η])) a:=λa f=>⟨v,rfl,λh=>(by cases h),f⟩
  clear g d
  go_enter pF,pG
  go_wp2_with (go_at_call 46;refine c.mono ?_;rintro e a j;obtain⟨b,rfl,k⟩:=j.no)
  refine fZ (v:=.tuple #[v,.bool ε,.bool η]) ?_ rfl (i _ k);simp[results,pH,go_sem]
 |true=>
  rw[d]at c;have l:∀a b,Fr (aq w) w a->bl a b (bZ s)->gp w ε ε (bZ s) (.returned (.tuple #[b,.bool ε,.bool ε])) a:=λa b f h=>⟨b,rfl,λ_=>h,f⟩
  clear g d
  go_enter pF,pG
  go_wp2_with (go_at_call 46;refine c.mono ?_;rintro e a j;obtain⟨b,rfl,p,k⟩:=j.yes)
  refine fZ (v:=.tuple #[b,.bool ε,.bool ε]) ?_ rfl (l _ _ k p);simp[results,pH,go_sem]
def ace{v:τ}{L:E Wh}{t:ρ}(s:ρ){w:υ}(D:t.toList=[97,100,100])(o:bl w v L)(p:bH L)(k:aY (aq w) w)(_:s.size<=1000):aH θ 14 #[v,.string t,.string s] w (gp w ε (dF s&&gO L (bZ s)) (iA L (bZ s))):=by
 have mixed:=mixed;have d:=JO s k;obtain⟨u,x⟩:=M7 s;rw[u,x]at d;clear u x;have i:=λb y (f:Fr (aq w) w b)(h:bl b y (bZ s))=>Rn alb (o.below f) h (dL p) (dL (zc s)) (k.fh f)
 cases l:dF s with
 |false=>
  rw[l]at d;rw[ly];have q:∀b,Fr (aq w) w b->gp w ε η (iA L (bZ s)) (.returned (.tuple #[v,.bool ε,.bool η])) b:=λb f=>⟨v,rfl,λh=>(by cases h),f⟩
  clear o p k l i
  go_enter pF,pG
  go_wp2_with (go_at_call 46;refine d.mono ?_;rintro e b m;obtain⟨z,rfl,n⟩:=m.no)
  refine fZ (v:=.tuple #[v,.bool ε,.bool η]) ?_ rfl (q _ n);simp[results,pH,go_sem]
 |true=>
  rw[l]at d;rw[dD];have r:∀b j c,Fr (aq w) w b->(gO L (bZ s)=ε->bl j c (iA L (bZ s)))->Fr (aq b) b j->gp w ε (gO L (bZ s)) (iA L (bZ s)) (.returned (.tuple #[c,.bool ε,.bool (gO L (bZ s))])) j:=λb j c f h g=>⟨c,rfl,h,dh f g⟩
  clear o p k l;generalize gO L (bZ s)=a at*;generalize iA L (bZ s)=T at*
  go_enter pF,pG
  go_wp2_with (first|(go_at_call 46;refine d.mono ?_;rintro e b m;obtain⟨z,rfl,A,n⟩:=m.yes;clear m)|(go_at_call 47;refine(i _ _ n A).mono ?_;rintro e j ⟨c,rfl,B,C⟩))
  refine fZ (v:=.tuple #[c,.bool ε,.bool a]) ?_ rfl (r _ _ _ n B C);simp[results,pH,go_sem]
def acl{v:τ}{L:E Wh}{t:ρ}(s:ρ){w:υ}(D:t.toList=[116,105,109,101,115])(o:bl w v L)(p:bH L)(k:aY (aq w) w)(_:s.size<=1000):aH θ 14 #[v,.string t,.string s] w (gp w ε (dF s&&fs L (bZ s)) (iB L (bZ s))):=by
 have mixed:=mixed;have d:=JO s k;obtain⟨u,x⟩:=M7 s;rw[u,x]at d;clear u x;have i:=λb y (f:Fr (aq w) w b)(h:bl b y (bZ s))=>Rn alm (o.below f) h (dL p) (dL (zc s)) (k.fh f)
 cases l:dF s with
 |false=>
  rw[l]at d;rw[ly];have q:∀b,Fr (aq w) w b->gp w ε η (iB L (bZ s)) (.returned (.tuple #[v,.bool ε,.bool η])) b:=λb f=>⟨v,rfl,λh=>(by cases h),f⟩
  clear o p k l i
  go_enter pF,pG
  go_wp2_with (go_at_call 46;refine d.mono ?_;rintro e b m;obtain⟨z,rfl,n⟩:=m.no)
  refine fZ (v:=.tuple #[v,.bool ε,.bool η]) ?_ rfl (q _ n);simp[results,pH,go_sem]
 |true=>
  rw[l]at d;rw[dD];have r:∀b j c,Fr (aq w) w b->(fs L (bZ s)=ε->bl j c (iB L (bZ s)))->Fr (aq b) b j->gp w ε (fs L (bZ s)) (iB L (bZ s)) (.returned (.tuple #[c,.bool ε,.bool (fs L (bZ s))])) j:=λb j c f h g=>⟨c,rfl,h,dh f g⟩
  clear o p k l;generalize fs L (bZ s)=a at*;generalize iB L (bZ s)=T at*
  go_enter pF,pG
  go_wp2_with (first|(go_at_call 46;refine d.mono ?_;rintro e b m;obtain⟨z,rfl,A,n⟩:=m.yes;clear m)|(go_at_call 48;refine(i _ _ n A).mono ?_;rintro e j ⟨c,rfl,B,C⟩))
  refine fZ (v:=.tuple #[c,.bool ε,.bool a]) ?_ rfl (r _ _ _ n B C);simp[results,pH,go_sem]
def acg{v:τ}{L:E Wh}{g:ρ}(s:ρ){w:υ}(m:g.toList=[105,110])(_:bl w v L)(_:bH L)(i:aY (aq w) w)(hs:s.size<=1000):aH θ 14 #[v,.string g,.string s] w (gp w ε (iL s ε) (jq s ε)):=by
 have mixed:=mixed;have j:=Rt s ε i hs;have d:∀c b,(iL s ε=ε->bl c b (jq s ε))->Fr (aq w) w c->gp w ε (iL s ε) (jq s ε) (.returned (.tuple #[b,.bool ε,.bool (iL s ε)])) c:=λc b h f=>⟨b,rfl,h,f⟩
 clear i hs;generalize iL s ε=a at*;generalize jq s ε=T at*
 go_enter pF,pG
 go_wp2_with (go_at_call 49;refine j.mono ?_;rintro e c ⟨b,rfl,k,l⟩)
 refine fZ (v:=.tuple #[b,.bool ε,.bool a]) ?_ rfl (d _ _ k l);simp[results,pH,go_sem]
def acj{v:τ}{L:E Wh}{g:ρ}(s:ρ){w:υ}(m:g.toList=[111,117,116])(_:bl w v L)(_:bH L)(i:aY (aq w) w)(hs:s.size<=1000):aH θ 14 #[v,.string g,.string s] w (gp w ε (iL s η) (jq s η)):=by
 have mixed:=mixed;have j:=Rt s η i hs;have d:∀c b,(iL s η=ε->bl c b (jq s η))->Fr (aq w) w c->gp w ε (iL s η) (jq s η) (.returned (.tuple #[b,.bool ε,.bool (iL s η)])) c:=λc b h f=>⟨b,rfl,h,f⟩
 clear i hs;generalize iL s η=a at*;generalize jq s η=T at*
 go_enter pF,pG
 go_wp2_with (go_at_call 49;refine j.mono ?_;rintro e c ⟨b,rfl,k,l⟩)
 refine fZ (v:=.tuple #[b,.bool ε,.bool a]) ?_ rfl (d _ _ k l);simp[results,pH,go_sem]
def acm{v:τ}{L:E Wh}{g:ρ}(s:ρ){w:υ}(l:g.toList=[116,117,114,110])(i:bl w v L)(j:bH L)(k:aY (aq w) w)(hs:s.size<=1000):aH θ 14 #[v,.string g,.string s] w (gp w ε (cP 1 s.data.toList&&yT (aI s.data.toList 0) L) (tT (aI s.data.toList 0) L)):=by
 have mixed:=mixed;have m:=acH s l i j k hs;generalize(cP 1 s.data.toList&&yT (aI s.data.toList 0) L)=a at*;generalize tT (aI s.data.toList 0) L=T at*;have d:∀c b,(a=ε->bl c b T)->Fr (aq w) w c->gp w ε a T (.returned (.tuple #[b,.bool ε,.bool a])) c:=λc b h f=>⟨b,rfl,h,f⟩
 clear i j k hs
 go_enter pF,pG
 go_wp2_with (go_at_call 50;refine m.mono ?_;rintro e c ⟨b,rfl,n,o⟩)
 refine fZ (v:=.tuple #[b,.bool ε,.bool a]) ?_ rfl (d _ _ n o);simp[results,pH,go_sem]
def ach{v:τ}{L:E Wh}{g:ρ}(s:ρ){w:υ}(l:g.toList=[108,97,116,101,114])(i:bl w v L)(j:bH L)(k:aY (aq w) w)(hs:s.size<=1000):aH θ 14 #[v,.string g,.string s] w (gp w ε (cP 1 s.data.toList&&yL (aI s.data.toList 0) L) (tL (aI s.data.toList 0) L)):=by
 have mixed:=mixed;have m:=acG s l i j k hs;generalize(cP 1 s.data.toList&&yL (aI s.data.toList 0) L)=a at*;generalize tL (aI s.data.toList 0) L=T at*;have d:∀c b,(a=ε->bl c b T)->Fr (aq w) w c->gp w ε a T (.returned (.tuple #[b,.bool ε,.bool a])) c:=λc b h f=>⟨b,rfl,h,f⟩
 clear i j k hs
 go_enter pF,pG
 go_wp2_with (go_at_call 50;refine m.mono ?_;rintro e c ⟨b,rfl,n,o⟩)
 refine fZ (v:=.tuple #[b,.bool ε,.bool a]) ?_ rfl (d _ _ n o);simp[results,pH,go_sem]
def acf{v:τ}{L:E Wh}{g:ρ}(s:ρ){w:υ}(l:g.toList=[102,97,115,116,101,114])(i:bl w v L)(j:bH L)(k:aY (aq w) w)(hs:s.size<=1000):aH θ 14 #[v,.string g,.string s] w (gp w ε (cP 1 s.data.toList&&yF (aI s.data.toList 0) L) (tF (aI s.data.toList 0) L)):=by
 have mixed:=mixed;have m:=acF s l i j k hs;generalize(cP 1 s.data.toList&&yF (aI s.data.toList 0) L)=a at*;generalize tF (aI s.data.toList 0) L=T at*;have d:∀c b,(a=ε->bl c b T)->Fr (aq w) w c->gp w ε a T (.returned (.tuple #[b,.bool ε,.bool a])) c:=λc b h f=>⟨b,rfl,h,f⟩
 clear i j k hs
 go_enter pF,pG
 go_wp2_with (go_at_call 50;refine m.mono ?_;rintro e c ⟨b,rfl,n,o⟩)
 refine fZ (v:=.tuple #[b,.bool ε,.bool a]) ?_ rfl (d _ _ n o);simp[results,pH,go_sem]
def aci{v:τ}{L:E Wh}{a:ρ}(s:ρ){w:υ}(c:(a.toList==[115,101,116])=η)(d:(a.toList==[97,100,100])=η)(e:(a.toList==[116,105,109,101,115])=η)(f:(a.toList==[105,110])=η)(g:(a.toList==[111,117,116])=η)(i:(a.toList==[116,117,114,110])=η)(j:(a.toList==[108,97,116,101,114])=η)(k:(a.toList==[102,97,115,116,101,114])=η):aH θ 14 #[v,.string a,.string s] w (gp w η η L):=by
 have mixed:=mixed;have b:gp w η η L (.returned (.tuple #[v,.bool η,.bool η])) w:=⟨v,rfl,λh=>(by cases h),Fr.refl _ _⟩
 go_enter pF,pG
 go_wp2
 refine fZ (v:=.tuple #[v,.bool η,.bool η]) ?_ rfl (b);simp[results,pH,go_sem]
def ab6{v:τ}{a:ρ}(s:ρ)(w:υ)(c:(a.toList==[97,116])=η)(d:(a.toList==[103,114,105,100])=η)(e:(a.toList==[97,114,101,97])=η)(f:(a.toList==[112,108,111,116])=η):aH θ 15 #[v,.string a,.string s] w (f_ w (.string ⟨#[119,104,97,116,10]⟩)):=by
 have mixed:=mixed;have b:=Fr.refl (aq w) w
 go_enter func15,ntmps15
 go_wp2
 go_ret
 exact⟨rfl,b⟩
def gY:E ψ->O
 |[]=>0
 |b::l=>if b=32 then 0 else gY l+1
def NO:∀l:E ψ,gY l<=l.length
 |[]=>aR _
 |b::l=>by
  unfold gY;split
  ·exact eF _
  ·exact Nat.succ_le_succ (NO l)
def XG:∀(l:E ψ)(i:O),i<gY l->l.getD i 0≠32
 |[],i,h=>aO h (cN _)
 |b::l,i,h=>by
  unfold gY at h;split at h
  ·exact aO h (cN _)
  ·rename_i a
   match i with
   |0=>exact a
   |i+1=>exact XG l i (by omega)
def NN:∀l:E ψ,gY l<l.length->l.getD (gY l) 0=32/\l=l.take (gY l)++32::l.drop (gY l+1)
 |[],h=>aO h (nF 0)
 |b::l,h=>by
  unfold gY at h⊢;split
  ·rename_i a
   subst a;exact⟨rfl,rfl⟩
  ·rename_i a
   rw[bi a,cn]at h;obtain⟨c,d⟩:=NN l (by omega);refine⟨c,?_⟩;rw[Ph,List.drop_succ_cons,List.cons_append,<-d]
def NM:∀l:E ψ,32∉l.take (gY l)
 |[]=>by simp
 |b::l=>by
  unfold gY;split
  ·simp
  ·rename_i a
   rw[Ph,dw];rintro(h|h)
   ·exact a h.symm
   ·exact NM l h
def adG{l:E ψ}(h:gY l<l.length):e_ l [32]=(l.take (gY l),l.drop (gY l+1),ε):=by have a:=(NN l h).2;have:=RN (r:=l.drop (gY l+1)) (NM l);rw[<-a]at this;exact this
def adF{l:E ψ}(h:gY l=l.length):e_ l [32]=(l,[],η):=by
 refine adD ?_;have:=NM l
 rwa [h,DF]at this
def Ny(s:ρ)(i:O)(a:i<s.data.toList.length)(W:υ):(v6 9 (.string s) (ι i)).run θ W=.ok (.int .u8 ((s.data.toList.getD i 0).toNat:O)) W:=by
 have b:i<s.size:=by rw[<-lL];exact a
 rw[run_index_string W 9 s .i64 i (by kernel_rfl),dif_pos ⟨by omega,by omega⟩];rw[cq,cV a,g9];rfl
structure uo (s:ρ) (k:O):Prop where
 le:k<=s.size
 sz:s.size<=1000
 ne:∀i:O,i<k->∃b:Z,(∀W,(v6 9 (.string s) (ι i)).run θ W=.ok (.int .u8 b) W)/\b≠32
 hit:k<s.size->∀W,(v6 9 (.string s) (ι k)).run θ W=.ok (.int .u8 32) W
def U4{s:ρ}(hs:s.size<=1000):uo s (gY s.data.toList):=by
 have c:=lL s;have d:=NO s.data.toList;refine⟨by omega,hs,λi a=>⟨_,λW=>Ny s i (by omega) W,λe=>XG _ i a ?_⟩,λf W=>?_⟩
 ·apply UInt8.toNat_inj.1
  have b:(32:ψ).toNat=32:=rfl;omega
 ·rw[Ny s _ (by omega) W,(NN _ (by omega)).1]
  rfl
def aim{v:τ}{s:ρ}{X:E Wh×E ψ}{w:υ}(h:uo s s.size)(d:aH θ 13 #[v,.string s] w (iv w X)):aH θ 6 #[v,.string s] w (iv w X):=by
 have mixed:=mixed;obtain⟨_,o,a,_⟩:=h;have p:(s.size:Z)<=1000:=by omega
 go_enter P6,Qb
 go_wp2_with fail
 go_loopw [6] (λi wr=>∃q:O,q<=s.size/\i=.int .i64 q/\wr=w) (λi _=>s.size-(intOf i).toNat)
 case atStart=>exact⟨0,eF _,rfl,rfl⟩
 case round=>
  obtain⟨q,r,rfl,rfl⟩:=hrel;by_cases c:q<s.size
  ·have g:(q:Z)<s.size:=by omega
   obtain⟨b,j,k⟩:=a q c;clear a d
   go_wp2_with fail
   exact⟨⟨q+1,by omega,by simp⟩,by simp[intOf];omega⟩
  ·have l:(q:Z)=s.size:=by omega
   clear a
   go_wp2_with (go_at_call 13;refine d.mono ?_;rintro e t ⟨f,rfl,m,n⟩)
   refine fZ (v:=.tuple #[f,.string ⟨(X.2++[10]).toArray⟩]) ?_ rfl ⟨f,rfl,m,n⟩;simp[results,Qe,go_sem]
def aio{v:τ}{s:ρ}{k:O}{T:E Wh}{w:υ}(h:uo s k)(f:k<s.size)(g:aH θ 14 #[v,.string (s.extract 0 k),.string (s.extract (k+1) s.size)] w (gp w ε ε T)):aH θ 6 #[v,.string s] w (iv w (T,[111,107])):=by
 have mixed:=mixed;obtain⟨_,x,c,d⟩:=h;have d:=d f;have y:(s.size:Z)<=1000:=by omega
 have l:(k:Z)<s.size:=by omega
 go_enter P6,Qb
 go_wp2_with fail
 go_loopw [6] (λi wr=>∃q:O,q<=k/\i=.int .i64 q/\wr=w) (λi _=>k-(intOf i).toNat)
 case atStart=>exact⟨0,eF _,rfl,rfl⟩
 case round=>
  obtain⟨q,m,rfl,rfl⟩:=hrel;by_cases a:q<k
  ·have n:(q:Z)<s.size:=by omega
   obtain⟨b,o,p⟩:=c q a;clear c d g
   go_wp2_with fail
   exact⟨⟨q+1,by omega,by simp⟩,by simp[intOf];omega⟩
  ·obtain rfl:q=k:=by omega
   have r:¬(q:Z)=s.size:=by omega
   clear c m a f
   go_wp2_with (go_at_call 14;refine g.mono ?_;rintro e z ⟨j,rfl,t,u⟩)
   refine fZ (v:=.tuple #[j,.string ⟨#[111,107,10]⟩]) ?_ rfl ⟨j,rfl,t trivial,u⟩;simp[results,Qe,go_sem]
def ain{v:τ}{s:ρ}{k:O}{T L:E Wh}{w:υ}(h:uo s k)(g:k<s.size)(c:bl w v L)(j:aH θ 14 #[v,.string (s.extract 0 k),.string (s.extract (k+1) s.size)] w (gp w ε η T)):aH θ 6 #[v,.string s] w (iv w (L,B6)):=by
 have mixed:=mixed;obtain⟨_,u,d,f⟩:=h;have f:=f g;have x:(s.size:Z)<=1000:=by omega
 have m:(k:Z)<s.size:=by omega
 go_enter P6,Qb
 go_wp2_with fail
 go_loopw [6] (λi wr=>∃q:O,q<=k/\i=.int .i64 q/\wr=w) (λi _=>k-(intOf i).toNat)
 case atStart=>exact⟨0,eF _,rfl,rfl⟩
 case round=>
  obtain⟨q,n,rfl,rfl⟩:=hrel;by_cases a:q<k
  ·have o:(q:Z)<s.size:=by omega
   obtain⟨b,p,r⟩:=d q a;clear d f j
   go_wp2_with fail
   exact⟨⟨q+1,by omega,by simp⟩,by simp[intOf];omega⟩
  ·obtain rfl:q=k:=by omega
   have t:¬(q:Z)=s.size:=by omega
   clear d n a g
   go_wp2_with (go_at_call 14;refine j.mono ?_;rintro e y ⟨z,rfl,_,l⟩;replace c:=c.below l)
   refine fZ (v:=.tuple #[v,.string ⟨#[110,111,10]⟩]) ?_ rfl ⟨v,rfl,c,l⟩;simp[results,Qe,go_sem]
def L'{v:τ}{s:ρ}{k:O}{T L:E Wh}{t:E ψ}{w:υ}(h:uo s k)(j:k<s.size)(d:bl w v L)(l:aH θ 14 #[v,.string (s.extract 0 k),.string (s.extract (k+1) s.size)] w (gp w η η T))(m:∀c,Fr (aq w) w c->aH θ 15 #[v,.string (s.extract 0 k),.string (s.extract (k+1) s.size)] c (f_ c (.string ⟨(t++[10]).toArray⟩))):aH θ 6 #[v,.string s] w (iv w (L,t)):=by
 have mixed:=mixed;obtain⟨_,A,f,g⟩:=h;have g:=g j;have B:(s.size:Z)<=1000:=by omega
 have p:(k:Z)<s.size:=by omega
 go_enter P6,Qb
 go_wp2_with fail
 go_loopw [6] (λi wr=>∃q:O,q<=k/\i=.int .i64 q/\wr=w) (λi _=>k-(intOf i).toNat)
 case atStart=>exact⟨0,eF _,rfl,rfl⟩
 case round=>
  obtain⟨q,r,rfl,rfl⟩:=hrel;by_cases a:q<k
  ·have u:(q:Z)<s.size:=by omega
   obtain⟨b,x,y⟩:=f q a;clear f g l m
   go_wp2_with fail
   exact⟨⟨q+1,by omega,by simp⟩,by simp[intOf];omega⟩
  ·obtain rfl:q=k:=by omega
   have z:¬(q:Z)=s.size:=by omega
   clear f r a j
   go_wp2_with (first|(go_at_call 14;refine l.mono ?_;rintro e c ⟨C,rfl,_,n⟩)|(go_at_call 15;refine(m _ ‹_›).mono ?_;rintro e D ⟨rfl,o⟩;replace d:=d.below (dh n o)))
   refine fZ (v:=.tuple #[v,.string ⟨(t++[10]).toArray⟩]) ?_ rfl ⟨v,rfl,d,dh n o⟩;simp[results,Qe,go_sem]
def dX:l_:=λa=>bif a==[115,101,116]then CH else bif a==[97,100,100]then z7 else bif a==[116,105,109,101,115]then Da else bif a==[105,110]then mA ε else bif a==[111,117,116]then mA η else bif a==[116,117,114,110]then De else bif a==[108,97,116,101,114]then Bq else bif a==[102,97,115,116,101,114]then AQ else bif a==[98,97,99,107]then sD else bif a==[109,105,114,114,111,114]then ta else bif a==[115,104,111,119]then vC else bif a==[102,111,108,100]then uP else bif a==[112,101,114,105,111,100]then vq else bif a==[97,116]then mw else bif a==[103,114,105,100]then mj else bif a==[97,114,101,97]then ma else bif a==[115,117,109]then qU else bif a==[112,108,111,116]then rJ else λ_ _=>ζ
abbrev asN:E ψ:=[119,104,97,116]
def j8{a:l_}{L:E Wh}{l W r:E ψ}{sp:κ}{f:bq}(b:e_ l [32]=(W,r,sp))(c:mC W=γ (sp,f)):li a L l=mU L (a W L r):=by unfold li;simp only[b,c,aaR,aZ];cases a W L r<;>rfl
def U3{b:l_}{L:E Wh}{l W r:E ψ}{sp:κ}(c:e_ l [32]=(W,r,sp))(d:∀f,mC W≠γ (sp,f)):li b L l=(L,asN):=by
 unfold li;simp only[c];cases h:mC W with
 |none=>rfl
 |some x=>
  obtain⟨q,f⟩:=x;have a:(q==sp)=η:=dT.2 λe=>d f (by rw[h,e])
  simp only[a,a_]
def s6{v:τ}{s:ρ}{k:O}{T L:E Wh}{a:κ}{w:υ}(h:uo s k)(b:k<s.size)(d:bl w v L)(c:aH θ 14 #[v,.string (s.extract 0 k),.string (s.extract (k+1) s.size)] w (gp w ε a T)):aH θ 6 #[v,.string s] w (iv w (mU L (bif a then γ (T,[111,107])else ζ))):=by
 cases a with
 |true=>exact aio h b c
 |false=>exact ain h b d c
def Gk{v:τ}{s:ρ}{k:O}{T L:E Wh}{x:χ (E Wh×E ψ)}{w:υ}(h:uo s k)(b:k<s.size)(c:bl w v L)(d:aH θ 14 #[v,.string (s.extract 0 k),.string (s.extract (k+1) s.size)] w (gp w η η T))(f:∀y,x=γ y->y.1=L)(e:∀a,Fr (aq w) w a->aH θ 15 #[v,.string (s.extract 0 k),.string (s.extract (k+1) s.size)] a (f_ a (.string (rQ x)))):aH θ 6 #[v,.string s] w (iv w (mU L x)):=by
 cases x with
 |none=>exact L' h b c d e
 |some y=>obtain⟨A,t⟩:=y;obtain rfl:A=L:=f _ rfl;exact L' h b c d e
def Yl{W:E ψ}{sp:κ}{f:bq}(h:mC W=γ (sp,f)):(W=[115,101,116]/\sp=ε)\/(W=[97,100,100]/\sp=ε)\/(W=[116,105,109,101,115]/\sp=ε)\/(W=[105,110]/\sp=ε)\/(W=[111,117,116]/\sp=ε)\/(W=[116,117,114,110]/\sp=ε)\/(W=[108,97,116,101,114]/\sp=ε)\/(W=[102,97,115,116,101,114]/\sp=ε)\/(W=[98,97,99,107]/\sp=η)\/(W=[109,105,114,114,111,114]/\sp=η)\/(W=[115,104,111,119]/\sp=η)\/(W=[102,111,108,100]/\sp=η)\/(W=[112,101,114,105,111,100]/\sp=η)\/(W=[97,116]/\sp=ε)\/(W=[103,114,105,100]/\sp=ε)\/(W=[97,114,101,97]/\sp=ε)\/(W=[115,117,109]/\sp=η)\/(W=[112,108,111,116]/\sp=ε):=by have c:=N_ h;unfold qB at c;simp only[dw,cG,kq,nM]at c;rcases c with⟨a,b,_⟩|⟨a,b,_⟩|⟨a,b,_⟩|⟨a,b,_⟩|⟨a,b,_⟩|⟨a,b,_⟩|⟨a,b,_⟩|⟨a,b,_⟩|⟨a,b,_⟩|⟨a,b,_⟩|⟨a,b,_⟩|⟨a,b,_⟩|⟨a,b,_⟩|⟨a,b,_⟩|⟨a,b,_⟩|⟨a,b,_⟩|⟨a,b,_⟩|⟨a,b,_⟩<;>subst a<;>subst b<;>decide
def aeR(s:ρ)(k:O):(s.extract 0 k).toList=s.data.toList.take k:=by rw[qG,ByteArray.data_extract,Array.toList_extract,List.extract_eq_take_drop];simp
def tK{s:ρ}{l:E ψ}(h:s.toList=l):s=⟨l.toArray⟩:=by apply pR;rw[<-qG,h]
def amn{s:ρ}{r:E ψ}(h:s.data.toList=r):s=⟨r.toArray⟩:=pR (by rw[h])
def acz{v:τ}{L:E Wh}(s:ρ){w:υ}(d:bl w v L)(C:bH L)(B:aY (aq w) w)(hs:s.size<=1000)(p:gY s.data.toList<s.data.toList.length):aH θ 6 #[v,.string s] w (iv w (li dX L s.data.toList)):=by
 have R:=lL s;have A:=U4 hs;have g:=adG p;rw[R]at p;have I:=RZ s (gY s.data.toList+1);have a:=aeR s (gY s.data.toList);have D:(s.extract (gY s.data.toList+1) s.size).size<=1000:=by rw[zp];omega
 generalize gY s.data.toList=k at*;generalize s.data.toList.take k=W at*;generalize U:s.data.toList.drop (k+1)=r at*;have P:=amn I;have Q:∀(q:ρ->υ->Prop),True:=λ_=>trivial
 clear Q;by_cases t:W=[115,101,116]
 ·rw[t]at a g
  rw[j8 g (f:=18) rfl];have u:=ack (s.extract (k+1) s.size) a d C B D;have e:dX [115,101,116] L r=bif dF (s.extract (k+1) s.size)then γ (bZ (s.extract (k+1) s.size),[111,107])else ζ:=by rw[P];rfl
  rw[e];exact s6 A p d u
 by_cases x:W=[97,100,100]
 ·rw[x]at a g
  rw[j8 g (f:=19) rfl];have u:=ace (s.extract (k+1) s.size) a d C B D;have e:dX [97,100,100] L r=bif dF (s.extract (k+1) s.size)&&gO L (bZ (s.extract (k+1) s.size))then γ (iA L (bZ (s.extract (k+1) s.size)),[111,107])else ζ:=by rw[P];rfl
  rw[e];exact s6 A p d u
 by_cases h:W=[116,105,109,101,115]
 ·rw[h]at a g
  rw[j8 g (f:=20) rfl];have u:=acl (s.extract (k+1) s.size) a d C B D;have e:dX [116,105,109,101,115] L r=bif dF (s.extract (k+1) s.size)&&fs L (bZ (s.extract (k+1) s.size))then γ (iB L (bZ (s.extract (k+1) s.size)),[111,107])else ζ:=by rw[P];rfl
  rw[e];exact s6 A p d u
 by_cases G:W=[105,110]
 ·rw[G]at a g
  rw[j8 g (f:=21) rfl];have u:=acg (s.extract (k+1) s.size) a d C B D;have e:dX [105,110] L r=bif iL (s.extract (k+1) s.size) ε then γ (jq (s.extract (k+1) s.size) ε,[111,107])else ζ:=by
   show mA ε L r=_
   unfold mA iL jq;rw[I];cases cP 3 r<;>rfl
  rw[e];exact s6 A p d u
 by_cases z:W=[111,117,116]
 ·rw[z]at a g
  rw[j8 g (f:=22) rfl];have u:=acj (s.extract (k+1) s.size) a d C B D;have e:dX [111,117,116] L r=bif iL (s.extract (k+1) s.size) η then γ (jq (s.extract (k+1) s.size) η,[111,107])else ζ:=by
   show mA η L r=_
   unfold mA iL jq;rw[I];cases cP 3 r<;>rfl
  rw[e];exact s6 A p d u
 by_cases j:W=[116,117,114,110]
 ·rw[j]at a g
  rw[j8 g (f:=23) rfl];have u:=acm (s.extract (k+1) s.size) a d C B D;have e:dX [116,117,114,110] L r=bif cP 1 (s.extract (k+1) s.size).data.toList&&yT (aI (s.extract (k+1) s.size).data.toList 0) L then γ (tT (aI (s.extract (k+1) s.size).data.toList 0) L,[111,107])else ζ:=by rw[I];rfl
  rw[e];exact s6 A p d u
 by_cases i:W=[108,97,116,101,114]
 ·rw[i]at a g
  rw[j8 g (f:=24) rfl];have u:=ach (s.extract (k+1) s.size) a d C B D;have e:dX [108,97,116,101,114] L r=bif cP 1 (s.extract (k+1) s.size).data.toList&&yL (aI (s.extract (k+1) s.size).data.toList 0) L then γ (tL (aI (s.extract (k+1) s.size).data.toList 0) L,[111,107])else ζ:=by rw[I];rfl
  rw[e];exact s6 A p d u
 by_cases b:W=[102,97,115,116,101,114]
 ·rw[b]at a g
  rw[j8 g (f:=25) rfl];have u:=acf (s.extract (k+1) s.size) a d C B D;have e:dX [102,97,115,116,101,114] L r=bif cP 1 (s.extract (k+1) s.size).data.toList&&yF (aI (s.extract (k+1) s.size).data.toList 0) L then γ (tF (aI (s.extract (k+1) s.size).data.toList 0) L,[111,107])else ζ:=by rw[I];rfl
  rw[e];exact s6 A p d u
 have M:aH θ 14 #[v,.string (s.extract 0 k),.string (s.extract (k+1) s.size)] w (gp w η η L):=aci _ (by rw[a];exact dT.2 t) (by rw[a];exact dT.2 x) (by rw[a];exact dT.2 h) (by rw[a];exact dT.2 G) (by rw[a];exact dT.2 z) (by rw[a];exact dT.2 j) (by rw[a];exact dT.2 i) (by rw[a];exact dT.2 b);by_cases H:W=[97,116]
 ·rw[H]at a g
  rw[j8 g (f:=31) rfl];have e:dX [97,116] L r=mw L (s.extract (k+1) s.size).data.toList:=by rw[I];rfl
  rw[e];refine Gk A p d M (λy o=>?_) λN f=>?_
  ·unfold mw at o
   generalize(cP _ _&&_)=c at o;cases c with
   |true=>cases o;rfl
   |false=>cases o
  ·rw[tK a]
   exact ab4 _ (d.below f) (dL C) (B.fh f) D
 by_cases l:W=[103,114,105,100]
 ·rw[l]at a g
  rw[j8 g (f:=32) rfl];have e:dX [103,114,105,100] L r=mj L (s.extract (k+1) s.size).data.toList:=by rw[I];rfl
  rw[e];refine Gk A p d M (λy o=>?_) λN f=>?_
  ·unfold mj at o
   generalize(cP _ _&&_)=c at o;cases c with
   |true=>cases o;rfl
   |false=>cases o
  ·rw[tK a]
   exact ab5 _ (d.below f) (dL C) (B.fh f) D
 by_cases m:W=[97,114,101,97]
 ·rw[m]at a g
  rw[j8 g (f:=33) rfl];have e:dX [97,114,101,97] L r=ma L (s.extract (k+1) s.size).data.toList:=by rw[I];rfl
  rw[e];refine Gk A p d M (λy o=>?_) λN f=>?_
  ·unfold ma at o
   generalize(cP _ _&&_)=c at o;cases c with
   |true=>cases o;rfl
   |false=>cases o
  ·rw[tK a]
   exact ab3 _ (d.below f) (dL C) (B.fh f) D
 by_cases n:W=[112,108,111,116]
 ·rw[n]at a g
  rw[j8 g (f:=35) rfl];have e:dX [112,108,111,116] L r=rJ L (s.extract (k+1) s.size).data.toList:=by rw[I];rfl
  rw[e];refine Gk A p d M (λy o=>?_) λN f=>?_
  ·unfold rJ at o
   obtain⟨T,_,rfl⟩:=dt.1 o;rfl
  ·rw[tK a]
   exact ab7 _ (d.below f) (B.fh f)
 rw[U3 g λf S=>?_]
 ·refine L' A p d M λN _=>ab6 _ N (by rw[a];exact dT.2 H) (by rw[a];exact dT.2 l) (by rw[a];exact dT.2 m) (by rw[a];exact dT.2 n)
 ·have:=Yl S
  simp only[t,x,h,G,z,j,i,b,H,l,m,n,false_and,and_false,Bool.true_eq_false,or_self]at this
def acA{v:τ}{L:E Wh}(s:ρ){w:υ}(k:bl w v L)(l:bH L)(m:aY (aq w) w)(hs:s.size<=1000)(n:gY s.data.toList=s.data.toList.length):aH θ 6 #[v,.string s] w (iv w (li dX L s.data.toList)):=by
 have p:=lL s;have o:=U4 hs;rw[n,p]at o;have j:=adF n;have i:s.toList=s.data.toList:=qG s;generalize s.data.toList=W at*;refine aim o ?_;by_cases c:W=[98,97,99,107]
 ·rw[c]at i j
  rw[c,j8 j (f:=26) rfl];have e:dX [98,97,99,107] L []=sD L []:=rfl;rw[e];exact ab8 i k l m
 by_cases a:W=[109,105,114,114,111,114]
 ·rw[a]at i j
  rw[a,j8 j (f:=27) rfl];have e:dX [109,105,114,114,111,114] L []=ta L []:=rfl;rw[e];exact ab_ i k l m
 by_cases d:W=[115,104,111,119]
 ·rw[d]at i j
  rw[d,j8 j (f:=28) rfl];have e:dX [115,104,111,119] L []=vC L []:=rfl;rw[e];rw[tK i];exact acb k l m
 by_cases g:W=[102,111,108,100]
 ·rw[g]at i j
  rw[g,j8 j (f:=29) rfl];have e:dX [102,111,108,100] L []=uP L []:=rfl;rw[e];rw[tK i];exact ab9 k l m
 by_cases b:W=[112,101,114,105,111,100]
 ·rw[b]at i j
  rw[b,j8 j (f:=30) rfl];have e:dX [112,101,114,105,111,100] L []=vq L []:=rfl;rw[e];rw[tK i];exact aca k l m
 by_cases h:W=[115,117,109]
 ·rw[h]at i j
  rw[h,j8 j (f:=34) rfl];have e:dX [115,117,109] L []=qU L []:=rfl;rw[e];rw[tK i];exact acd k l m
 rw[U3 j λf q=>?_]
 ·exact ab' (by rw[i];exact dT.2 c) (by rw[i];exact dT.2 a) (by rw[i];exact dT.2 d) (by rw[i];exact dT.2 g) (by rw[i];exact dT.2 b) (by rw[i];exact dT.2 h) k
 ·have:=Yl q
  simp only[c,a,d,g,b,h,false_and,and_false,Bool.false_eq_true,or_self]at this
def acB{v:τ}{L:E Wh}(s:ρ){w:υ}(a:bl w v L)(b:bH L)(c:aY (aq w) w)(hs:s.size<=1000):aH θ 6 #[v,.string s] w (iv w (li dX L s.data.toList)):=by
 by_cases d:gY s.data.toList<s.data.toList.length
 ·exact acz s a b c hs d
 ·exact acA s a b c hs (by have:=NO s.data.toList;omega)
def iE(S:E Wh->E ψ->χ (E Wh×E ψ)):Prop:=∀L r x,bH L->S L r=γ x->bH x.1/\x.2.length<=4000
def na{L:E Wh}{r:E ψ}{S:E Wh->E ψ->χ (E Wh×E ψ)}{c:κ}{y x:E Wh×E ψ}(e:S L r=bif c then γ y else ζ)(h:c=ε->bH y.1/\y.2.length<=4000)(a:S L r=γ x):bH x.1/\x.2.length<=4000:=by
 rw[e]at a;cases c with
 |true=>cases a;exact h rfl
 |false=>cases a
def rF:([111,107]:E ψ).length<=4000:=by decide
def Db:∀a:E Z,(∀n∈a,lu n)->(fL a).length<=21*a.length
 |[],_=>by simp[fL,iD]
 |[n],h=>by rw[YC];have:=gD (h n je);simp;omega
 |n::m::a,h=>by
  have e:fL (n::m::a)=bc n++([32]++fL (m::a)):=by simp[fL,iD]
  have b:=Db (m::a) λx c=>h x (lB _ c)
  have:=gD (h n je);rw[e];simp only[cv,cn,gm]at b⊢;omega
def ahA:iE CH:=λ_ _ _ _ a=>na (S:=CH) rfl (λ_=>⟨zc _,rF⟩) a
def ahn:iE z7:=λ_ _ _ _ a=>na (S:=z7) rfl (λh=>⟨(XR (by rw[aM]at h;exact h.2)).1,rF⟩) a
def ahD:iE Da:=λ_ _ _ _ a=>na (S:=Da) rfl (λh=>⟨(Yy (by rw[aM]at h;exact h.2)).1,rF⟩) a
def UK(c:κ):iE (mA c):=λ_ _ _ _ a=>na (S:=mA c) rfl (λh=>⟨Nk (by rw[aM]at h;exact h.2),rF⟩) a
def ahE:iE De:=λ_ _ _ _ a=>na (S:=De) rfl (λh=>⟨qY (by omega) (by rw[aM]at h;exact h.2),rF⟩) a
def ahv:iE Bq:=λ_ _ _ _ a=>na (S:=Bq) rfl (λh=>⟨qY (by omega) (by rw[aM]at h;exact h.2),rF⟩) a
def ahs:iE AQ:=λ_ _ _ _ a=>na (S:=AQ) rfl (λh=>⟨Ye (by rw[aM]at h;exact h.2),rF⟩) a
def ahq:iE sD:=λ_ _ _ _ a=>na (S:=sD) rfl (λh=>⟨qY (by omega) h,rF⟩) a
def ahw:iE ta:=λ_ _ _ _ a=>na (S:=ta) rfl (λh=>⟨qY (by omega) h,rF⟩) a
def ahB:iE vC:=λL _ x a b=>by unfold vC at b;cases b;have:=Ys a;exact⟨a,by show(fM L).data.toList.length<=4000;rw[lL];omega⟩
def aht:iE uP:=λL _ x a b=>by unfold uP at b;cases b;have:=gD (n:=jy L) (by have:=KE a;omega);exact⟨a,by show(bc (jy L)).length<=4000;omega⟩
def ahy:iE vq:=λL _ x a b=>by unfold vq at b;cases b;have:=gD (n:=jH L) (by have:=MX a;omega);exact⟨a,by show(bc (jH L)).length<=4000;omega⟩
def ahp:iE mw:=λL r x b c=>na (S:=mw) rfl (λh=>by
 rw[aM]at h;have:=Db (pO (iS L (aI r 0))) λn a=>by unfold pO at a;simp only[dw,kq,nM]at a;rcases a with rfl|rfl|rfl|rfl|rfl|rfl|rfl|rfl<;>exact J1 h.2 (by omega)
 exact⟨b,by show(fL (pO (iS L (aI r 0)))).length<=4000;have e:(pO (iS L (aI r 0))).length=8:=rfl;omega⟩) c
def ahu:iE mj:=λL r x b c=>na (S:=mj) rfl (λ_=>by
 have:=Db [F9 L (aI r 0) (aI r 1),F_ L (aI r 0) (aI r 1)] λn a=>by
  simp only[dw,kq,nM]at a;rcases a with rfl|rfl
  ·exact(F8 _ _ _).1
  ·exact(F8 _ _ _).2
 simp only[cn,gm]at this;exact⟨b,cD this (by omega)⟩) c
def aho:iE ma:=λL r x b c=>na (S:=ma) rfl (λh=>by
 rw[aM,aM]at h;have:=Db [mV (gW L (aI r 0)) 0,mV (gW L (aI r 0)) 1,mV (gW L (aI r 0)) 2,mV (gW L (aI r 0)) 3] λn a=>by simp only[dw,kq,nM]at a;rcases a with rfl|rfl|rfl|rfl<;>exact wU h.2.2 (by omega)
 simp only[cn,gm]at this;exact⟨b,cD this (by omega)⟩) c
def ahC:iE qU:=λL r x a b=>na (S:=qU) (r:=r) rfl (λ_=>by have:=gD (n:=eY L) (by have:=RD L;omega);exact⟨a,by show(bc (eY L)).length<=4000;omega⟩) b
def ahz:iE rJ:=λL r x c a=>by
 unfold rJ at a;obtain⟨T,d,rfl⟩:=dt.1 a;have e:=MW T;have f:=C7 d;have:=Db [(cU T).x,(cU T).y,((cU T).t:Z)] λn b=>by simp only[dw,kq,nM]at b;rcases b with rfl|rfl|rfl<;>omega
 simp only[cn,gm]at this;exact⟨c,cD this (by omega)⟩
def ahx:iE λ_ _=>ζ:=λ_ _ _ _ a=>by cases a
def j7{A B:E Wh->E ψ->χ (E Wh×E ψ)}{c:κ}(h:iE A)(k:iE B):iE (bif c then A else B):=by
 cases c with
 |true=>exact h
 |false=>exact k
def ahm(a:E ψ):iE (dX a):=j7 ahA (j7 ahn (j7 ahD (j7 (UK ε) (j7 (UK η) (j7 ahE (j7 ahv (j7 ahs (j7 ahq (j7 ahw (j7 ahB (j7 aht (j7 ahy (j7 ahp (j7 ahu (j7 aho (j7 ahC (j7 ahz ahx)))))))))))))))))
def U2{L:E Wh}(a:bH L)(l:E ψ):bH (li dX L l).1/\(li dX L l).2.length<=4000:=by
 unfold li;split
 ·rename_i r f _
  cases(r==(e_ l [32]).2.2)with
  |true=>
   rw[aZ];split
   ·rename_i x b
    exact ahm _ _ _ _ a b
   ·exact⟨a,by show(2:O)<=4000;omega⟩
  |false=>exact⟨a,by show(4:O)<=4000;omega⟩
 ·exact⟨a,by show(4:O)<=4000;omega⟩
def EZ:∀a:E (E ψ),bH (jk dX a).1/\(jk dX a).2.length<=4001*a.length:=by
 intro a;have b:∀(a:E (E ψ))(x:E Wh×E ψ),bH x.1->bH (a.foldl (qt dX) x).1/\(a.foldl (qt dX) x).2.length<=x.2.length+4001*a.length:=by
  intro a;induction a with
  |nil=>intro x c;exact⟨c,aR _⟩
  |cons l a d=>intro x c;obtain⟨e,h⟩:=U2 c l;obtain⟨f,g⟩:=d (qt dX x l) e;refine⟨f,cD g ?_⟩;unfold qt;simp only[cv,cn,gm];omega
 have:=b a ([],[]) xO;simpa[jk]using this
def aip(s:ρ):lj s.data.toList=cX (ca s 10 s.size).1:=by have h:=Ap s 10;have a:(((10:ψ).toNat:O):Z)=10:=rfl;rw[a]at h;unfold ev at h;rw[ca,ot,show((s.size:Z)==(s.size:Z))=ε from aaR _,Bool.true_or,aZ]at h;have c:=wz (Pd λb:ρ=>b.data.toList) h;simp only[iN,qH,eD,kp]at c;have d:Pd ((λb:ρ=>b.data.toList) ∘λl:E ψ=>(⟨l.toArray⟩:ρ)) (cW 10 s.data.toList)=cW 10 s.data.toList:=List.map_id' _;rw[d]at c;unfold lj;rw[<-c,List.dropLast_concat]
def bl.len{w:υ}{v:τ}{L:E Wh}(h:bl w v L):∃p c,v=.slice p L.length c:=by obtain⟨b,_,a,_⟩:=h;simp only[VR]at a;obtain⟨p,c,e,_⟩:=a;exact⟨p,c,e⟩
def bl.empty(w:υ)(p:χ c9):bl w (.slice p 0 0) []:=by refine⟨λ_=>ζ,λi b h=>(by cases h),?_,.inl ⟨rfl,rfl,rfl⟩⟩;simp only[VR];exact⟨p,0,rfl,by simp,aR _,λh=>aO h (nF 0)⟩
def aco(n:Z){w:υ}(h:lu n)(a:aY (aq w) w):aH θ 7 #[ι n] w (f_ w (.string (bM n))):=
 Hf Ch [ι n] (δ:={val:=.v (.string (bM n)),ap:=[vn n]}) rfl rfl (by simp only[F,ah,aa];exact iX h) rfl rfl a
def adA{s:ρ}{q:O}(_:q<s.size)(a:ce s q=10):ca s 10 (q+1)=((ca s 10 q).1++[s.extract (ca s 10 q).2 q],q+1):=by rw[ca,ot,a];simp
def adz{s:ρ}{q:O}(b:q<s.size)(a:ce s q≠10):ca s 10 (q+1)=ca s 10 q:=by rw[ca,ot,show((q:Z)==(s.size:Z))=η from dT.2 (by omega),show(ce s q==10)=η from dT.2 a];rfl
def acr(s:ρ){w:υ}(S:aY (aq w) w)(hs:s.size<=900):aH θ 4 #[.string s] w (f_ w (.string (E0 dX s))):=by
 have mixed:=mixed;have hs1:(s.size:Z)<=900:=by omega
 have hsl:=lL s
 go_enter aaF,ntmps4
 go_wp2_with fail
 go_loopw [3,4,5,6] (λd o f i wr=>∃(q:O)(X:E Wh×E ψ),q<=s.size/\i=.int .i64 q/\f=.int .i64 ((ca s 10 q).2:O)/\o=.string ⟨X.2.toArray⟩/\X=jk dX (cX (ca s 10 q).1)/\bl wr d X.1/\bH X.1/\Fr (aq w) w wr) (λ_ _ _ i _=>s.size-(intOf i).toNat)
 case atStart=>exact⟨0,([],[]),eF _,rfl,rfl,rfl,rfl,bl.empty _ _,xO,eR (fk w _ ζ) λk e=>by cases e⟩
 case round=>
  obtain⟨q,X,hq,rfl,rfl,rfl,g,C,u,v⟩:=hrel;by_cases x:q<s.size
  ·have N:(q:Z)<s.size:=by omega
   have j:=λW=>Ny s q (by omega) W
   have l:=Ai s (i:=q) (by omega);have P:=(qV s 10 q);by_cases G:ce s q=10
   ·have A:∀W,(v6 9 (.string s) (ι q)).run θ W=.ok (.int .u8 10) W:=λW=>by have:=j W;rw[cq,cV (by omega),g9,<-l,G]at this;exact this
    have a:=adA x G;have hL:=acB (s.extract (ca s 10 q).2 q) C u (S.fh v) (by rw[zp];omega);have T:=U2 u (s.extract (ca s 10 q).2 q).data.toList;have c:=(EZ (cX (ca s 10 q).1)).2;rw[<-g]at c;have Q:(cX (ca s 10 q).1).length<=901:=by rw[cC];omega
    have B:jk dX (cX (ca s 10 (q+1)).1)=qt dX X (s.extract (ca s 10 q).2 q).data.toList:=by rw[a];unfold cX at g⊢;rw[iN,eD,kp,R9,<-g]
    unfold qt at B;have H:((ca s 10 (q+1)).2:Z)=(q:Z)+1:=by rw[a];omega
    have U:((ca s 10 q).2:Z)<=q:=by omega
    generalize li dX X.1 (s.extract (ca s 10 q).2 q).data.toList=y at*;generalize(ca s 10 q).2=p at*;have next:∀t I,bl t I y.1->Fr (aq wr) wr t->∃(m:O)(r:E Wh×E ψ),m<=s.size/\jf .i64 ((q:Z)+1)=.int .i64 m/\jf .i64 ((q:Z)+1)=.int .i64 ((ca s 10 m).2:O)/\cZ ((⟨X.2.toArray⟩:ρ)++⟨(y.2++[10]).toArray⟩)=.string ⟨r.2.toArray⟩/\r=jk dX (cX (ca s 10 m).1)/\bl t I r.1/\bH r.1/\Fr (aq w) w t:=λt I h f=>⟨q+1,(y.1,X.2++(y.2++[10])),by omega,by simp,by rw[H],by rw[uw],B.symm,h,T.1,dh v f⟩
    have hyl:X.2.length+(y.2.length+1)<=100000000:=by omega
    clear a g B C u v l T c Q H G j
    go_wp2_with (go_at_call 6;refine hL.mono ?_;rintro e t ⟨I,rfl,R,g2⟩;replace next:=next t I R g2)
    exact⟨next,by simp[intOf];omega⟩
   ·have A:∃b:Z,(∀W,(v6 9 (.string s) (ι q)).run θ W=.ok (.int .u8 b) W)/\b≠10:=by refine⟨_,λW=>j W,λe=>G ?_⟩;rw[cq,cV (by omega),g9]at e;rw[l];exact e
    obtain⟨b,A,hb2⟩:=A;have a:=adz x G;have next:∃(m:O)(r:E Wh×E ψ),m<=s.size/\jf .i64 ((q:Z)+1)=.int .i64 m/\jf .i64 ((ca s 10 q).2:O)=.int .i64 ((ca s 10 m).2:O)/\cZ ⟨X.2.toArray⟩=.string ⟨r.2.toArray⟩/\r=jk dX (cX (ca s 10 m).1)/\bl wr u3 r.1/\bH r.1/\Fr (aq w) w wr:=
     ⟨q+1,X,by omega,by simp,by rw[a],rfl,by rw[a];exact g,C,u,v⟩
    clear a g C u v l G j P;generalize(ca s 10 q).2=p at*
    go_wp2_with fail
    exact⟨next,by simp[intOf];omega⟩
  ·have L:q=s.size:=by omega
   obtain⟨pp,cc,rfl⟩:=C.len;have h12:=dL u;have hd:=aco X.1.length (by omega) (S.fh v);have hsz:(bM X.1.length).size<=20:=by rw[show(bM X.1.length).size=(bc X.1.length).length from rfl];exact gD (by omega)
   have c:=(EZ (cX (ca s 10 q).1)).2;rw[<-g]at c;have Q:(cX (ca s 10 q).1).length<=901:=by rw[cC];have:=qV s 10 q;omega
   have hx2:X.2.length<=10000000:=by omega
   have M:E0 dX s=(⟨X.2.toArray⟩:ρ)++⟨#[119,104,101,101,108,115,32]⟩++bM X.1.length++⟨#[10]⟩:=by unfold E0;rw[aip,<-L,<-g,show(⟨#[119,104,101,101,108,115,32]⟩:ρ)=⟨([119,104,101,101,108,115,32]:E ψ).toArray⟩from rfl,show(⟨#[10]⟩:ρ)=⟨([10]:E ψ).toArray⟩from rfl,show bM X.1.length=⟨(bc X.1.length).toArray⟩from rfl,uw,uw,uw];unfold q1;simp only[lZ]
   have N:¬(q:Z)<s.size:=by omega
   clear C u g c Q x L;generalize bM X.1.length=D at*;generalize X.1.length=n at*
   go_wp2_with (go_at_call 7;refine hd.mono ?_;rintro e t ⟨rfl,R⟩)
   go_ret
   exact⟨wz (λz=>Hu (.string z)) M.symm,dh v R⟩
def acD(s:ρ)(w:υ)(hs:900<s.size):aH θ 4 #[.string s] w (f_ w (.string ⟨#[116,111,111,32,108,111,110,103,10]⟩)):=by
 have mixed:=mixed;have a:900<(s.size:Z):=by omega
 go_enter aaF,ntmps4
 go_wp2
 go_ret
 exact⟨rfl,Fr.refl _ _⟩
def asR:∀x∈qB,jg x.2.2 (dX x.1):=by
 intro x a;unfold qB at a;simp only[dw,kq,nM]at a;rcases a with rfl|rfl|rfl|rfl|rfl|rfl|rfl|rfl|rfl|rfl|rfl|rfl|rfl|rfl|rfl|rfl|rfl|rfl
 all_goals first
  |exact @ac7|exact @ac8|exact @adk|exact @ac_|exact @ac'|exact @ada|exact @adb|exact @ade|exact @adf|exact @adg|exact @adh|exact @adi|exact @adj|exact @adl|exact @adm|exact @adn|exact @adp|exact @adq
def ail(line:E ψ):zZ dX line:=λ_ _ h _=>asR _ (N_ h)
def aeO{s:ρ}(hs:s.size<=900):J_ dX s=ε:=by
 have a:=lL s;have b:(lj s.data.toList).length<=901:=by unfold lj;have:=Ao 10 s.data.toList;rw[Pa];omega
 refine R8.2 ⟨hs,λl _=>ail l,λk=>?_,λk=>?_⟩
 ·have c:=(EZ ((lj s.data.toList).take k)).2
  have d:((lj s.data.toList).take k).length<=901:=by rw[oG];omega
  omega
 ·have:=dL (EZ ((lj s.data.toList).take k)).1
  omega
def ais:ρ:=⟨#[116,111,111,32,108,111,110,103,10]⟩
def CE(s:ρ):ρ:=if s.size<=900 then E0 dX s else ais
def wQ(a:ρ->ρ):E τ->χ (τ×E κ)
 |[.string s]=>γ (.string (a s),[])
 |_=>ζ
def alw:au θ 5 (aS (wQ CE)):=by
 refine nl (λargs w=>enters 5 Tryz.f5 aaG rfl args w) λl x m a n w c=>?_
 unfold wQ at a;split at a
 ·rename_i s
  cases a;unfold CE;by_cases b:s.size<=900
  ·rw[aP b]
   obtain⟨d,g,i,j⟩:=R8.1 (aeO b);refine(acQ s (c.mono λ_ _ h=>h) d g i j).mono ?_;rintro e k ⟨rfl,f⟩;exact⟨rfl,f.none⟩
  ·rw[bi b]
   refine(acC s w (by omega)).mono ?_;rintro e k ⟨rfl,f⟩;exact⟨rfl,f.none⟩
 ·cases a
def alx:au θ 4 (aS (wQ CE)):=by
 refine nl (λargs w=>enters 4 Tryz.f4 aaF rfl args w) λg x i a j w c=>?_
 unfold wQ at a;split at a
 ·rename_i s
  cases a;unfold CE;by_cases b:s.size<=900
  ·rw[aP b]
   refine(acr s (c.mono λ_ _ h=>h) b).mono ?_;rintro e d ⟨rfl,f⟩;exact⟨rfl,f.none⟩
  ·rw[bi b]
   refine(acD s w (by omega)).mono ?_;rintro e d ⟨rfl,f⟩;exact⟨rfl,f.none⟩
 ·cases a
def Tw(a:ρ->ρ):aE:=ext (ext g0 5 (aS (wQ a))) 4 (aS (wQ a))
def agp:aK θ (Tw CE):=az (az bt alw) alx
def asa(a:ρ->ρ)(s:ρ):ad θ (Tw a) K 100 ww [.v (.string s)] [] (af 0)=bif ο ((↑(aW s):Z)> (1048576:Z))then rO [vB ε] []else bif !cK (a s) (a s)then rO [vB η] []else rO [vB ε] []:=by kernel_rfl
def atl(s:ρ):∃Γ,aK θ Γ/\aC (ad θ Γ K 100 ww [.v (.string s)] [] (af 0)) Ep:=by
 refine⟨_,agp,?_⟩;rw[asa];refine ay (λ_=>Φ rfl) λ_=>cL ?_ (Φ rfl)
 rw[xi];rfl
def jfA:laidOutB θ=ε:=by kernel_rfl
def jfB:mapsRowed θ=ε:=by kernel_rfl
def jfC:(θ.stops==[])=ε:=by kernel_rfl
def jfD:(θ.stopKnobs==[])=ε:=by kernel_rfl
def jfE:θ.stopsHeard=ε:=by kernel_rfl
def jfF:θ.mayEnter=ε:=by kernel_rfl
def jfG:(ju.lifted==θ.liftsFinal)=ε:=by kernel_rfl
def jfH:(θ.make==γ ju.make)=ε:=by kernel_rfl
def jfI:(ju.plainKeys==θ.plainKeys)=ε:=by kernel_rfl
def ahI:mI Unit->E τ
 | .agg a=>a.flatMap λ
  | .lit (.int k z)=>[jf k z]
  | .agg b=>b.map λ
   | .lit (.int k z)=>jf k z
   |_=>undef
  |_=>[undef]
 |_=>[]
def Cu(g:O)(d:mI Unit)(a:aU Obj):aU Obj:=a.modify g λ
 | .cells _ t b=>.cells (ahI d).toArray t b
 |o=>o
def M0(g:O)(v:τ)(a:aU Obj):aU Obj:=a.modify g λ
 | .cells _ t b=>.cells #[v] t b
 |o=>o
abbrev apm:ρ:={data:= #[105,110,118,97,108,105,100,32,115,121,110,116,97,120]}
abbrev ama:ρ:={data:= #[118,97,108,117,101,32,111,117,116,32,111,102,32,114,97,110,103,101]}
noncomputable def U_:O:=(World.holding θ default ⟨#[],#[],[]⟩).heap.size
noncomputable def UO(os:Os):υ:=
 let a:=World.holding θ os ⟨#[.cells #[.string apm] 329,.cells #[.string ama] 329],#[],[]⟩
 {a with heap:=Cu 6 at6 (Cu 7 at7 (Cu 2 at5 (Cu 4 aua (Cu 3 aub (M0 8 (.iface 327 (.pointer (γ ⟨U_,0,ζ⟩))) (M0 9 (.iface 327 (.pointer (γ ⟨U_+1,0,ζ⟩))) a.heap))))))}
def ahK:E (zM×mI Unit):=[("math/bits.deBruijn32tab",at6),("math/bits.deBruijn64tab",at7),("internal/strconv.uint64pow10",at5),("unicode/utf8.acceptRanges",aua),("strconv.ErrRange",at9),("strconv.ErrSyntax",at'),("unicode/utf8.first",aub)]
noncomputable def UN(os:Os):υ:={UO os with heap:=M0 5 eT (UO os).heap}
def ahJ(os:Os)(args:aU τ):Ic θ ju.laid ((UN os).forCall (λ_ _=>0) ⟨#[],args,[]⟩).memory:=
 laidMetH_of_parts (laidMet_of_run' 8 (by kernel_rfl) (by kernel_rfl)) (by kernel_rfl)
def ah6:mJ:=⟨λ|143=>60|219=>121|217=>182|225=>183|224=>184|267=>185|266=>236|314=>237|n=>n,λ|9=>9|3=>3|4=>4|5=>5|46=>193|146=>236|51=>64|n=>n,λ|1=>1|n=>n⟩
def ah5:Go.Proofs.LaysM.n143 θ ah6:=by repeat' (first|kernel_rfl|(intros;kernel_rfl)|decide|constructor|exact λw h=>Go.Proofs.cell_of_shapedOpen_int (zero:= #[.int .i64 0]) (t:=3) h (aL (by kernel_rfl)) (by kernel_rfl) rfl (by kernel_rfl) (by kernel_rfl) underlying3)
def alD{cs:aU τ}(h:cs.size=1):∃c,cs= #[c]:=by
 obtain⟨l⟩:=cs
 match l,h with
 |[c],_=>exact⟨c,rfl⟩
def Uh{W:υ}(b:zM)(g:O)(tn:zM)(d:mI Unit)(m:θ.globalNamed b=γ g)(c:(θ.globals[g]?).map (·.type)=γ 38){o:aU (zM×ae)}(r:θ.underlying 38=γ (.interface o))(h:laidMet θ [(b,.iface tn d)] W):∃l t e,W.heap[g]?=γ (.cells (List.toArray l) t e)/\z9 l:=by
 obtain⟨x,⟨y,z,A,n,p,q,f,i,a,s,_,_⟩,_⟩:=h;obtain rfl:=t_ (m.symm.trans f);obtain rfl:=t_ (c.symm.trans i);obtain⟨_,u,v,w,_,_⟩:=iface_of_trod r s;unfold Qj at a;rw[m,HS]at a;split at a
 ·rename_i j t e k
  simp only[ar]at a;subst a;exact⟨j.toList,t,e,k,.iface u v,w,.inr ⟨u,v,rfl⟩⟩
 ·cases a
def asm:θ.globalNamed "errors.errorType" =γ 5:=by kernel_rfl
def aso:(θ.cutTypes.find? (·.1== "internal/reflectlite.rtype")).map (·.2)=γ 298:=by kernel_rfl
def asn:((dH θ.types.size).filter λt=>θ.rowNamed t [101,114,114,111,114])=[38]:=by kernel_rfl
def ahL{W:υ}(z:Ic θ ju.laid W)(jF:W.ShapedOpen θ):aY (λk=>W.heap.size<=k) W:=by
 have A:laidMet θ ahK W/\handlesMet θ [("errors.errorType",Rows.laid_errors_errorType)] W:=z;obtain⟨h,i⟩:=A;have j:∀{g:O}{o:Obj},W.heap[g]?=γ o->¬W.heap.size<=g:=λh=>by have:=(cm.1 h).1;omega
 intro x w;simp only[zd,dw,kq,nM]at w;rcases w with rfl|rfl|rfl|rfl|rfl
 ·have p:laidMet θ [("internal/strconv.uint64pow10",Lib.tabData .u64 Lib.pow10Tab)] W:=h.filter λx=>x.1== "internal/strconv.uint64pow10"
  have e:θ.globalNamed "internal/strconv.uint64pow10" =γ 2:=by kernel_rfl
  have a:=Lib.tabIs_of_head (t:=228) (e:=106) (n:=20) e (by kernel_rfl) underlying228 underlying106 (by kernel_rfl) (by kernel_rfl) p;unfold Lib.TabIs Qj at a;rw[e,HS]at a;split at a
  ·rename_i y t d b
   simp only[ar]at a;subst a;exact⟨j b,_,t,d,b,rfl⟩
  ·cases a
 ·obtain⟨m,s⟩:=ah5.s1_3 W jF
  obtain⟨y,i,B,_⟩:=jF.1 1 #[.int .i64 0] 3 (aL (by kernel_rfl)) (by kernel_rfl);obtain⟨c,rfl⟩:=alD B;refine⟨j i,[c],_,_,i,m,?_⟩;have q:W.cell? ⟨1,0,ζ⟩=γ (ι m):=s;simp only[pI,i]at q;simpa using q
 ·have p:laidMet θ [("strconv.ErrSyntax",at')] W:=h.filter λx=>x.1== "strconv.ErrSyntax"
  obtain⟨l,t,d,a,v⟩:=Uh "strconv.ErrSyntax" 8 _ _ (by kernel_rfl) (by kernel_rfl) r_ p;exact⟨j a,l,t,d,a,v⟩
 ·have p:laidMet θ [("strconv.ErrRange",at9)] W:=h.filter λx=>x.1== "strconv.ErrRange"
  obtain⟨l,t,d,a,v⟩:=Uh "strconv.ErrRange" 9 _ _ (by kernel_rfl) (by kernel_rfl) r_ p;exact⟨j a,l,t,d,a,v⟩
 ·obtain⟨r,u,C,D,G,H,I,f⟩:=i _ (mN.2 rfl)
  have L:r=[101,114,114,111,114]:=(t_ D).symm;subst L;obtain rfl:=t_ (aso.symm.trans G);have s:C∈ (dH θ.types.size).filter λt=>θ.rowNamed t [101,114,114,111,114]:=List.mem_filter.2 ⟨List.mem_range.2 H,I⟩
  rw[asn]at s;obtain rfl:=mN.1 s;have M:typeHandle θ 38=.pointer (γ ⟨10,38,ζ⟩):=by kernel_rfl
  rw[M]at f;unfold Qj at f;rw[asm,HS]at f;split at f
  ·rename_i y t d b
   simp only[ar]at f;subst f;exact⟨j b,_,t,d,b,rfl⟩
  ·cases f
def asZ{H:Type}{enc:ae×τ->H}{a:Assume}{C:Checked}{os:Os}{f:bq}{fn:Func}{s:ChangeSpec}{k:E PathCond}{b l g m:κ}{X:υ->aU τ->Prop}(L:∀(w w':υ)(args:aU τ),w.heap=w'.heap->X w args->X w' args)(own:ownKnob C.prog.godebug=ζ)(n:os.Started)(p:C.prog.inits.idxOf? f=ζ)(y:C.prog.funcs[f]?=γ fn)(o:∃(w:υ)(c:Tape)(i:Input),w.os=os/\(w.forCall c i).Shaped C.prog/\i.vars=[]/\Input.okWide C.prog (w.forCall c i) .any w.heap.size f i/\((s.pre enc C.prog fn k b (w.forCall c i).memory i.args/\X (w.forCall c i).memory i.args)/\sizedMet enc C.prog fn (HQ s) b (w.forCall c i).memory i.args)/\a.holds C.prog (lone (Frame.enter C.prog f i.args .normal) [] (w.forCall c i)))(h:∀(W:υ)(base:O)(args:aU τ)(z A:E (mI H))(d:E DG),(∀(j:O) t v,fn.params[j]?=γ t->args[j]?=γ v->Value.okWide C.prog W .any base t v)->DataW.Whole enc C.prog fn.params.toList s.vars b W args.toList z A d->X W args->W.ShapedOpen C.prog->aH C.prog f args W λe I=>∃v,e=.returned v/\s.post enc C.prog fn b l g m W args v I):ReturnsInHanded a C os f .any (λw args=>(s.pre enc C.prog fn k b w args/\X w args)/\sizedMet enc C.prog fn (HQ s) b w args) (s.post enc C.prog fn b l g m):=by
 refine returnsInHanded_of_calls own n p o ?_;intro w c i _ jF _ B q x;obtain⟨_,_,_,D,r,_,_,_,_,u⟩:=B;have e:D=fn:=t_ (r.symm.trans y);subst e;obtain⟨⟨⟨z,A,d,M,R⟩,N⟩,S⟩:=q;have G:=DataW.Whole.of_heap (w':=w.forCall c i) (by rfl) M;refine(h (w.forCall c i) w.heap.size i.args z A d u G (L _ _ _ (by rfl) N) jF).mono λe I ⟨v,P,Q⟩=>?_
 subst P;exact ChangeSpec.post_blind Q
def as'(os:Os)(a:os.Started)(H:Type)(enc:ae×τ->H):ReturnsInHanded {} aay os 3 .any (λw args=>(zK.pre enc θ ww ju.domain η w args/\Ic θ ju.laid w)/\sizedMet enc θ ww (HQ zK) η w args) (zK.post enc θ ww η ε η η):=by
 refine asZ (C:=aay) (X:=λw _=>Ic θ ju.laid w) (λ_ _ _ e h=>h.of_heap e) own a (by kernel_rfl) P3
  (ChangeSpec.witness_at (enc:=enc) (C:=aay) (os:=os) (X:=λw _=>Ic θ ju.laid w) η (UN os) #[.string ⟨#[]⟩] 8 rfl (by kernel_rfl) (by kernel_rfl) (by kernel_rfl) (by kernel_rfl) (by kernel_rfl) (ahJ os _)) ?_
 intro W c args f g b d i j jF;exact adt (spec:=zK) P3 rfl rfl rfl (λ_ _=>rfl) atl H enc W c args f g b d i (ahL j jF)
def as1:ju.wf (HQ zK)=ε:=by kernel_rfl
def as2:(ju.inPlace==θ.inPlace 3)=ε:=by kernel_rfl
def as3:(ju.unfollowed==θ.unfollowed 3)=ε:=by kernel_rfl
def as4:(ju.recurses==θ.recurses 3)=ε:=by kernel_rfl
def as5:(ju.named==θ.varsNamed 3)=ε:=by kernel_rfl
def Zi:θ.funcNamed ju.func=γ 3:=by kernel_rfl
def as6:(ju.lifted==θ.liftsFinal)=ε:=jfG
def as7:(θ.make==γ ju.make)=ε:=jfH
def as8:(ju.plainKeys==θ.plainKeys)=ε:=jfI
def as_:joinedFacts θ 3 ww zK ju=ε:=by unfold joinedFacts;rw[jfA,jfB,jfC,jfD,jfE,jfF,as1,as2,as3,as4,as5,as6,as7,as8];kernel_rfl
def atc:Rows.FnExactExecuteSaid:=
 OpenClaim.holds_of_wide 3 ww rfl rfl rfl rfl rfl rfl rfl ⟨rfl,rfl,rfl,rfl,rfl⟩ rfl rfl rfl rfl rfl Zi P3 as_
  (aL (by kernel_rfl)) (by unfold Func.isWrapper;first|(rw[aP (by decide+kernel)];kernel_rfl)|(rw[bi (by decide+kernel)];exact⟨rfl,rfl⟩))
  (λb a H enc _=>as' b a H enc)
def ate:ju.wfByText (HQ zK)=ε:=by kernel_rfl
def atb:θ.mainIs=γ (ε,"3367deba35341feaa54b2fc79da7e4e427a511d24923d39f92859c78b4dd21ea".toList):=by kernel_rfl
def ata:ε=θ.looks []:=by kernel_rfl
def atd:θ.wantsStandIn 9=η:=by kernel_rfl
def as9:η=ju.goesBy θ:=by kernel_rfl
theorem xex_holds:Rows.FnExactExecuteCardSaid:=
 Claim7.holds_tied_plain_at .later [] [.data,.data,.data,.data,.handle,.sentinel,.sentinel,.pinned] ε (ε,"3367deba35341feaa54b2fc79da7e4e427a511d24923d39f92859c78b4dd21ea") ε
  atc (λ_ h=>by cases h) ate (λ_ h=>by cases h) fnExactExecute_row_tie rfl ⟨rfl,rfl⟩ atb rfl
  (λf fn c a=>by
    obtain rfl:f=3:=(t_ (Zi.symm.trans c)).symm;obtain rfl:fn=ww:=(t_ (P3.symm.trans a)).symm;exact⟨ata,λj t b=>by
     rw[params3]at b;have d:t=9:=by
      rcases j with _|j
      ·simpa using b.symm
      ·simp at b
     subst d;exact atd⟩)
  as9
end
end Go.Proofs.YtlmbkhplhkdhlaaGreatDoor
#print axioms Go.Proofs.YtlmbkhplhkdhlaaGreatDoor.xex_holds
