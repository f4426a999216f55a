/- Part 5 of the proof of FnExecuteNoneCard, FnExecuteTwiceCard, FnExecuteWhatCard. -/
import Derived.Test.YtdadmpgfcfkidaaGreatDoorZm4
import Derived.Tactics2
import Derived.Defers
import Derived.Recover
import Derived.Laws.Pointers
import Derived.Maps.OwnSet
import Derived.StringKeys
import Derived.Laws.EntriesVeiled
import Derived.Shelf.Strings.BuilderK
import Derived.Shelf.Strings.BuilderF
import Derived.Shelf.Strings.Repeat
import Derived.Shelf.Small.Strs
set_option maxRecDepth 100000
set_option maxHeartbeats 8000000
set_option linter.defProp false
set_option linter.unusedVariables false
set_option linter.unusedSimpArgs false
open Go.Act renaming put→jx
open Go renaming Addr→cM,Calls→aM,DataW→l6,Ending→jM,FuncId→dm,Leaves→xY,MemPlace→yg,Operand→cP,TypeId→ae,Value→τ,World→ψ,callFunc→g_,callsD_of_wpS→Ku,execOp→dw,leaves_cons→yo,recoverD→Kz,settle→yp,undef→aZ,wpS_of_wp→KE,wpS_region→KF
open _root_ renaming Array→aX,Bool→ξ,ByteArray→ρ,Int→Z,List→E,Nat→O,Option→χ,UInt8→υ,absurd→aR
open Array renaming mk→ap
open Go.RowKit.Below renaming heap_setCell→kM
open ByteArray renaming extract→qp,mk→ah,size→ay
open Classical renaming propDecidable→JQ
open Go.DataW.agg renaming injEq→RS
open Go.DataW.lit renaming injEq→RT
open Go.Exit renaming thenS→JT
open Go.Shelf renaming Ren→nj
open Go.WideMaps renaming keyOf_string_mk→ay9
open Go.Instr renaming makeFunc→R0,typeAssert→Be
open Int renaming toNat→aT
open Go.IntKind renaming i64→aY,u8→pu,wrap→aa,wrap_u32→azd
open Go.Lib renaming bytesWorld→xZ,countB→Bg,cut→e_,indexByte→adJ,itoa→bg,splitB→Bh
open List renaming append_eq_nil_iff→adO,length→ce,replicate→eH,suffix_cons→Ft,suffix_iff_eq_drop→azm
open Go.Lit.bool renaming injEq→azn
open Go.Lit.int renaming injEq→ad4
open Nat renaming beq→Ψ,ble→Δ,blt→ω,ne_of_gt→Kd
open Go.Obj.cells renaming injEq→rT
open Go.Oper renaming wp→ot
open Or renaming elim→vy,inl→lr,inr→Kg
open Go.Region renaming wanted→ow
open Go.Proofs.Tryz renaming f148→gB,f163→SV,f178→vA,f244→yk,f245→S5,f48→Kl,f50→Km,f95→S9,func147→Te,func17→Tf,func40→aer,func41→Tm,func42→Tn,func45→aes,func7→aev,ntmps147→Tr,ntmps17→Ts,ntmps45→aeA,prog→θ,results147→Tw,results17→Tx
open UInt8 renaming ofNat→ns,ofNat_toNat→aeB
open Go.Value renaming int→jc,string→b9
open Go.World renaming cell?→oA,frozen?_of_block→FO,setCell→mL
open Decidable renaming decide→κ
open Bool renaming false→η,true→ε
open Option renaming none→ζ,some→γ
open Go.Proofs.Tryz
namespace Go.Proofs.YtdadmpgfcfkidaaGreatDoor
noncomputable section
open Go.RowKit Go.Shelf
def ay4:=@Array.toList_extract
def adc:=@ByteArray.data_extract
def adS:=@List.extract_eq_take_drop
def J6:=@List.length_dropLast
def HN:aK θ (CN fh fB):=az (az ba PG) ap6
def WR:aK θ (wB fh fB d_ dB ij uC):=az (az HN IP) aqL
def HQ:aK θ (mh fh fB d_ dB ij gw gv ge jU jV kv):=az (az (az (az HN IP) aqu) apF) Z_
def Hy:aK θ (mY fh fB ij eA fH iq i4):=az (az (az HN aoL) aoM) Z_
def ag6(L:E Wh):0<=fd L/\fd L<4294967296:=by
 unfold fd;cases fM L with
 |false=>simp
 |true=>
  show 0<=iP _ _ _/\iP _ _ _<4294967296
  unfold iP;rw[azd];omega
def wx(n:Z):ρ:=⟨(Lib.decDigits n.toNat).toArray⟩
def apC:ak θ 80 (aW (K8 wx)):=by
 refine n4 (λargs w=>enters 80 f80 func80 rfl args w) λh x i a c w d=>?_
 unfold K8 at a;split at a
 ·rename_i n b
  cases a;simp only[Ω,ax,aj,aL]at c;obtain⟨f,j,rfl⟩:=c;obtain⟨k,rfl⟩:=rQ f;refine(agr k (by omega) w d).mono ?_;rintro e l ⟨rfl,g⟩;exact⟨rfl,g⟩
 ·cases a
def W5:aK θ (wD fh fB fd fM wx):=az (az HN ao7) apC
def zb(args:aX τ)(w:ψ):(g_ 70 args).run θ w=.ok (.enter 70 args) w:=enters _ _ Tryz.func70 rfl args w
def VE(args:aX τ)(w:ψ):(g_ 64 args).run θ w=.ok (.enter 64 args) w:=enters _ _ Tryz.func64 rfl args w
variable {L:E Wh}
def IJ(h:L.length<=12):Δ (0+L.length) L.length=ε/\aF L.length (J (Y L))=ε/\κ (L.length<=274877906944)=ε:=⟨by rw[bl];omega,dn _ _,dc⟩
def alK{l:E Z}(h:∀n∈l,lZ n):uC l=ε:=bT.2 λn a=>by have:=h n a;rw[aP,aL,aL];omega
variable {A:Z}
def zH(h:lZ A):zG [ι A]=ε:=by
 show(κ (-9223372036854775808<=A)&&κ (A<=9223372036854775807))=ε
 rw[aP,aL,aL];omega
def aa4(h:Θ):(λq=>cO h (0+q))=cO h:=by funext q;rw[bH]
variable {X:ψ}
variable {i:O}
def aro(s:ρ)(d:dW i L X)(e:a4 (cn X i) X)(f:bK L)(hs:s.size<=1000)(a:cS 1 s.data.toList=ε):aM θ 40 #[.pointer (γ ⟨i,0,ζ⟩),.string s] X (dj i L (m9 L s.data.toList) X):=by
 have b:ω s.size 4294967281=ε:=by rw[bM];omega
 obtain⟨g,j,l⟩:=IJ (dI f);have m:fh 1 s=ε:=a;unfold m9;rw[a,ex];cases h:uo L (aN s.data.toList 0)with
 |false=>
  refine we (vs:=[.string s]) (us:=[.bool η]) WR aer (by kernel_rfl:G3.body=γ (k7 (i_ 2 oY) (.seq (.region 2 (eu 2 oY) η) (q9 3 oY)))) (k:=1) (o:=iz 2 1 oY) (by kernel_rfl) (by kernel_rfl) (by kernel_rfl:(iz 2 1 oY).op=.call ⟨.value (.func 70),#[.tmp 19],tm (iz 2 1 oY)⟩) zb zX d e λc=>?_
  show(fq θ (wB fh fB d_ dB ij uC) 100 (i_ 2 oY) ([.ptr 0 1 0 0,.v (.string s)]++eH 22 (.v aZ)) (dS L.length c (Y L)) (λ_ T H=>fE θ (wB fh fB d_ dB ij uC) (λ_ _ _ _=>.err) (eu 2 oY).toList ((eu 2 oY).toList.take 1) T H λq r=>.out .normal ((#[.tmp 19]:aX cP).toList.map (bP q)) (r.take 2))).ok _
  rw[av8];simp only[cz,oN];refine(aq (by simp only[Ω,ax,aj,g,j,l,b,m]) ⟨?_⟩).out;exact⟨by show[AV.v (.bool (dB (Y L) (aN s.data.toList 0) L.length))]=_;rw[show dB (Y L) (aN s.data.toList 0) L.length=η from h];rfl,rfl⟩
 |true=>
  refine GK (vs:=[.string s]) WR aer d e f λc=>?_
  show(ad θ (wB fh fB d_ dB ij uC) K 100 G3 [.ptr 0 1 0 0,.v (.string s)] (dS L.length c (Y L)) (ag 2)).ok _
  rw[av7];simp only[cz,oN,sh];have t:uC (qG (jg L (aN s.data.toList 0)))=ε:=alK λn a=>by unfold qG at a;simp only[dE,iX,oC]at a;rcases a with rfl|rfl|rfl|rfl|rfl|rfl|rfl|rfl<;>exact Mp h (by omega)
  refine(aq ?_ ⟨?_⟩).out
  ·simp only[Ω,ax,aj,g,j,l,b,m,bv]
   exact⟨h,t⟩
  ·exact⟨rfl,rfl,rfl⟩
def ahd(s:ρ)(f:dW i L X)(g:a4 (cn X i) X)(r:bK L)(hs:s.size<=1000):aM θ 41 #[.pointer (γ ⟨i,0,ζ⟩),.string s] X (dj i L (mZ L s.data.toList) X):=by
 have a:ω s.size 4294967281=ε:=by rw[bM];omega
 obtain⟨l,m,n⟩:=IJ (dI r);unfold mZ;cases t:cS 2 s.data.toList with
 |false=>
  refine we (vs:=[.string s]) (us:=[.string s,ι (2:O)]) HQ Tm (by kernel_rfl:zj.body=γ (k7 (i_ 1 eU) (.seq (.region 1 (eu 1 eU) η) (q9 2 eU)))) (k:=1) (o:=iz 1 1 eU) (by kernel_rfl) (by kernel_rfl) (by kernel_rfl:(iz 1 1 eU).op=.call ⟨.value (.func 64),#[.tmp 12,.const (ι 2)],tm (iz 1 1 eU)⟩) VE (Pq (by omega) (by omega) t) f g λc=>?_
  show(fq θ (mh fh fB d_ dB ij gw gv ge jU jV kv) 100 (i_ 1 eU) ([.ptr 0 1 0 0,.v (.string s)]++eH 48 (.v aZ)) (dS L.length c (Y L)) (λ_ T H=>fE θ (mh fh fB d_ dB ij gw gv ge jU jV kv) (λ_ _ _ _=>.err) (eu 1 eU).toList ((eu 1 eU).toList.take 1) T H λb d=>.out .normal ((#[.tmp 12,.const (ι 2)]:aX cP).toList.map (bP b)) (d.take 2))).ok _
  rw[av4];exact⟨rfl,rfl⟩
 |true=>
 have q:fh 2 s=ε:=t;rw[ex];cases h:uo L (aN s.data.toList 0)with
 |false=>
  refine we (vs:=[.string s]) (us:=[.bool η]) HQ Tm (by kernel_rfl:zj.body=γ (k7 (i_ 3 eU) (.seq (.region 3 (eu 3 eU) η) (q9 4 eU)))) (k:=1) (o:=iz 3 1 eU) (by kernel_rfl) (by kernel_rfl) (by kernel_rfl:(iz 3 1 eU).op=.call ⟨.value (.func 70),#[.tmp 25],tm (iz 3 1 eU)⟩) zb zX f g λc=>?_
  show(fq θ (mh fh fB d_ dB ij gw gv ge jU jV kv) 100 (i_ 3 eU) ([.ptr 0 1 0 0,.v (.string s)]++eH 48 (.v aZ)) (dS L.length c (Y L)) (λ_ T H=>fE θ (mh fh fB d_ dB ij gw gv ge jU jV kv) (λ_ _ _ _=>.err) (eu 3 eU).toList ((eu 3 eU).toList.take 1) T H λb d=>.out .normal ((#[.tmp 25]:aX cP).toList.map (bP b)) (d.take 2))).ok _
  rw[av5];simp only[cz,oN];refine(aq (by simp only[Ω,ax,aj,l,m,n,a,q]) ⟨?_⟩).out;exact⟨by show[AV.v (.bool (dB (Y L) (aN s.data.toList 0) L.length))]=_;rw[show dB (Y L) (aN s.data.toList 0) L.length=η from h];rfl,rfl⟩
 |true=>
 have e:=GG h;rw[ex];cases v:C0 L (aN s.data.toList 0) (aN s.data.toList 1)with
 |false=>
  refine we (vs:=[.string s]) (us:=[.bool η]) HQ Tm (by kernel_rfl:zj.body=γ (k7 (i_ 7 eU) (.seq (.region 7 (eu 7 eU) η) (q9 8 eU)))) (k:=1) (o:=iz 7 1 eU) (by kernel_rfl) (by kernel_rfl) (by kernel_rfl:(iz 7 1 eU).op=.call ⟨.value (.func 70),#[.tmp 42],tm (iz 7 1 eU)⟩) zb zX f g λc=>?_
  show(fq θ (mh fh fB d_ dB ij gw gv ge jU jV kv) 100 (i_ 7 eU) ([.ptr 0 1 0 0,.v (.string s)]++eH 48 (.v aZ)) (dS L.length c (Y L)) (λ_ T H=>fE θ (mh fh fB d_ dB ij gw gv ge jU jV kv) (λ_ _ _ _=>.err) (eu 7 eU).toList ((eu 7 eU).toList.take 1) T H λb d=>.out .normal ((#[.tmp 42]:aX cP).toList.map (bP b)) (d.take 2))).ok _
  rw[av6];simp only[cz,oN,sh];refine(aq ?_ ⟨?_⟩).out
  ·simp only[Ω,ax,aj,l,m,n,a,q,bv]
   exact⟨h,e⟩
  ·refine⟨?_,rfl⟩
   show[AV.v (.bool (C0 L (aN s.data.toList 0) (aN s.data.toList 1)))]=_
   rw[v];rfl
 |true=>
  refine GK (vs:=[.string s]) HQ Tm f g r λc=>?_
  show(ad θ (mh fh fB d_ dB ij gw gv ge jU jV kv) K 100 zj [.ptr 0 1 0 0,.v (.string s)] (dS L.length c (Y L)) (ag 2)).ok _
  rw[av3];simp only[cz,oN,sh];refine(aq ?_ ⟨?_⟩).out
  ·have x:=(Ia (gw (w8 (jg L (aN s.data.toList 0)))) (gv (w8 (jg L (aN s.data.toList 0)))) (aN s.data.toList 1))
   simp only[Ω,ax,aj,l,m,n,a,q,bv];refine⟨h,e,v,bT.2 λj y=>?_⟩;have:j=0\/j=1:=by have:=np.1 y;omega
   rcases this with rfl|rfl
   ·exact zH x.1
   ·exact zH x.2
  ·exact⟨rfl,rfl,rfl⟩
def ag_(s:ρ)(g:dW i L X)(l:a4 (cn X i) X)(v:bK L)(hs:s.size<=1000):aM θ 42 #[.pointer (γ ⟨i,0,ζ⟩),.string s] X (dj i L (mR L s.data.toList) X):=by
 have b:ω s.size 4294967281=ε:=by rw[bM];omega
 obtain⟨m,n,p⟩:=IJ (dI v);unfold mR;cases x:cS 1 s.data.toList with
 |false=>
  refine ahZ (vs:=[.string s]) (us:=[.string s,ι (1:O)]) Hy Tn (by kernel_rfl:ze.body=γ (.seq (p9 eS) (.seq (.region 1 (eu 1 eS) ε) (q9 2 eS)))) (k:=5) (o:=iz 1 5 eS) (by kernel_rfl) (by kernel_rfl) (by kernel_rfl:(iz 1 5 eS).op=.call ⟨.value (.func 64),#[.tmp 14,.const (ι 1)],tm (iz 1 5 eS)⟩) VE (by kernel_rfl) (Pq (by omega) (by omega) x) g l (abX s) (λc=>?_) λc=>?_
  ·show(a0 θ (mY fh fB ij eA fH iq i4) 100 K (p9 eS) ([.ptr 0 1 0 0,.v (.string s)]++eH 38 (.v aZ)) (dS L.length c (Y L)) p_).ok _
   rw[avY];exact⟨rfl,rfl,rfl⟩
  ·rw[avZ]
   rfl
 |true=>
 have r:fh 1 s=ε:=x;rw[ex];cases h:Eo L (aN s.data.toList 0)with
 |false=>
  refine we (vs:=[.string s]) (us:=[.bool η]) Hy Tn (by kernel_rfl:ze.body=γ (k7 (i_ 2 eS) (.seq (.region 2 (eu 2 eS) η) (q9 3 eS)))) (k:=1) (o:=iz 2 1 eS) (by kernel_rfl) (by kernel_rfl) (by kernel_rfl:(iz 2 1 eS).op=.call ⟨.value (.func 70),#[.tmp 21],tm (iz 2 1 eS)⟩) zb zX g l λc=>?_
  show(fq θ (mY fh fB ij eA fH iq i4) 100 (i_ 2 eS) ([.ptr 0 1 0 0,.v (.string s)]++eH 38 (.v aZ)) (dS L.length c (Y L)) (λ_ T H=>fE θ (mY fh fB ij eA fH iq i4) (λ_ _ _ _=>.err) (eu 2 eS).toList ((eu 2 eS).toList.take 1) T H λt u=>.out .normal ((#[.tmp 21]:aX cP).toList.map (bP t)) (u.take 2))).ok _
  rw[av0];simp only[cz];refine(aq (by simp only[Ω,ax,aj,m,n,p,b,r]) ⟨?_⟩).out;refine⟨?_,rfl⟩;show[AV.v (.bool (Eo L (aN s.data.toList 0)))]=_
  rw[h];rfl
 |true=>
 rw[ex];have z:ip (ic L (aN s.data.toList 0)).length (cO (ks (ic L (aN s.data.toList 0))))=ε:=ue (a:=ks (ic L (aN s.data.toList 0))) λ_ _=>rfl
 have B:(ic L (aN s.data.toList 0)).length<=24:=aaX _ _ _;have e:Δ (0+(ic L (aN s.data.toList 0)).length) (ic L (aN s.data.toList 0)).length=ε:=by rw[bl];omega
 have f:κ ((ic L (aN s.data.toList 0)).length<=274877906944)=ε:=dc;cases d:BZ (ic L (aN s.data.toList 0))with
 |false=>
  refine we (vs:=[.string s]) (us:=[.bool η]) Hy Tn (by kernel_rfl:ze.body=γ (k7 (i_ 4 eS) (.seq (.region 4 (eu 4 eS) η) (q9 5 eS)))) (k:=1) (o:=iz 4 1 eS) (by kernel_rfl) (by kernel_rfl) (by kernel_rfl:(iz 4 1 eS).op=.call ⟨.value (.func 70),#[.tmp 28],tm (iz 4 1 eS)⟩) zb zX g l λc=>?_
  show(fq θ (mY fh fB ij eA fH iq i4) 100 (i_ 4 eS) ([.ptr 0 1 0 0,.v (.string s)]++eH 38 (.v aZ)) (dS L.length c (Y L)) (λ_ T H=>fE θ (mY fh fB ij eA fH iq i4) (λ_ _ _ _=>.err) (eu 4 eS).toList ((eu 4 eS).toList.take 1) T H λt u=>.out .normal ((#[.tmp 28]:aX cP).toList.map (bP t)) (u.take 2))).ok _
  rw[av1];simp only[cz,aa4];refine(aq ?_ ⟨?_⟩).out
  ·simp only[Ω,ax,aj,m,n,p,b,r,bv]
   exact⟨h,e,z,f⟩
  ·refine⟨?_,rfl⟩
   show[AV.v (.bool (BZ (ic L (aN s.data.toList 0))))]=_
   rw[d];rfl
 |true=>
  refine GK (vs:=[.string s]) Hy Tn g l v λc=>?_
  show(ad θ (mY fh fB ij eA fH iq i4) K 100 ze [.ptr 0 1 0 0,.v (.string s)] (dS L.length c (Y L)) (ag 2)).ok _
  rw[avX];simp only[cz,aa4];refine(aq ?_ ⟨?_⟩).out
  ·simp only[Ω,ax,aj,m,n,p,b,r,bv]
   refine⟨h,e,z,f,d,bT.2 λj A=>?_⟩;have:j=0\/j=1\/j=2\/j=3:=by have:=np.1 A;omega
   rcases this with rfl|rfl|rfl|rfl
   ·exact zH (yU d (k:=0) (by omega))
   ·exact zH (yU d (k:=1) (by omega))
   ·exact zH (yU d (k:=2) (by omega))
   ·exact zH (yU d (k:=3) (by omega))
  ·exact⟨rfl,rfl,rfl⟩
def aho(s:ρ)(b:dW i L X)(d:a4 (cn X i) X)(e:bK L)(hs:s.size<=1000):aM θ 43 #[.pointer (γ ⟨i,0,ζ⟩),.string s] X (dj i L (sc L s.data.toList) X):=by
 have l:ω s.size 4294967281=ε:=by rw[bM];omega
 obtain⟨f,g,j⟩:=IJ (dI e);unfold sc;have a:=ag6 L;have m:aa IntKind.u64 (fd L)=fd L:=by rw[IntKind.wrap_u64];omega
 cases h:fM L with
 |false=>
  refine we (vs:=[.string s]) (us:=[.bool η]) W5 func43 (by kernel_rfl:G7.body=γ (k7 (i_ 2 oZ) (.seq (.region 2 (eu 2 oZ) η) (q9 3 oZ)))) (k:=1) (o:=iz 2 1 oZ) (by kernel_rfl) (by kernel_rfl) (by kernel_rfl:(iz 2 1 oZ).op=.call ⟨.value (.func 70),#[.tmp 15],tm (iz 2 1 oZ)⟩) zb zX b d λc=>?_
  show(fq θ (wD fh fB fd fM wx) 100 (i_ 2 oZ) ([.ptr 0 1 0 0,.v (.string s)]++eH 18 (.v aZ)) (dS L.length c (Y L)) (λ_ T H=>fE θ (wD fh fB fd fM wx) (λ_ _ _ _=>.err) (eu 2 oZ).toList ((eu 2 oZ).toList.take 1) T H λp q=>.out .normal ((#[.tmp 15]:aX cP).toList.map (bP p)) (q.take 2))).ok _
  rw[awd];simp only[cz,hZ];refine(aq (by simp only[Ω,ax,aj,f,g,j]) ⟨?_⟩).out;refine⟨?_,rfl⟩;show[AV.v (.bool (fM L))]=_
  rw[h];rfl
 |true=>
  have r:wx (fd L)=⟨(bg (fd L)).toArray⟩:=by unfold wx;obtain⟨k,u⟩:=rQ a.1;rw[u,cV,Lib.itoa_nonneg]
  refine GK (vs:=[.string s]) (t:=bg (fd L)) W5 func43 b d e λc=>?_
  show(ad θ (wD fh fB fd fM wx) K 100 G7 [.ptr 0 1 0 0,.v (.string s)] (dS L.length c (Y L)) (ag 2)).ok _
  rw[awc];simp only[cz,hZ,m];refine(aq ?_ ⟨?_⟩).out
  ·simp only[Ω,ax,aj,f,g,j,bv,aL]
   exact⟨h,a.1,a.2⟩
  ·exact⟨by rw[r],rfl,rfl⟩
section
section
variable {P:Program} {ops:aX Oper} {Q:Exit->Act->ψ->Prop} {md:Region.Mode} {S:ψ->Prop}
def aff{d:E O}{f k k2:O}{o n:Oper}{c:aX ξ}{a:Act}{w:ψ}(t:Region.ready md ops c=[k,k2])(v:ops[k]?=γ o)(x:ow o (yielded ops a.tmps)=ε)(p:ops[k2]?=γ n)(q:ow n (yielded ops a.tmps)=ε)(h:∀e:Act->ψ->Prop,Shut (∀g w',(d.elem k=ε->S w')->ll P md ops Q d S f (c.setIfInBounds k ε) g w'->e g w')->ot P o a w e Q)(l:∀e:Act->ψ->Prop,Shut (∀g w',(d.elem k2=ε->S w')->ll P md ops Q d S f (c.setIfInBounds k2 ε) g w'->e g w')->ot P n a w e Q):ll P md ops Q d S (f+1) c a w:=by
 refine⟨λj=>(by rw[t]at j;cases j),λi u=>?_⟩;rw[t]at u;have r:i=k\/i=k2:=by simpa using u
 rcases r with rfl|rfl
 ·refine wpOp_step v λe s=>?_
  rw[aU x];exact h e λg w' j l=>s g w' ⟨j,l⟩
 ·refine wpOp_step p λe s=>?_
  rw[aU q];exact l e λg w' j l=>s g w' ⟨j,l⟩
end
def arn{D:O}{L:E Wh}(s:ρ){w:ψ}(q:dW D L w)(z:a4 (cn w D) w)(hs:s.size<=1000)(A:cS 1 s.data.toList=η):aM θ 40 #[.pointer (γ ⟨D,0,ζ⟩),.string s] w (dj D L ζ w):=by
 have mixed:=mixed;obtain⟨p,n,c,B,M⟩:=id q;have C:w.drew.cell? ⟨D,0,ζ⟩=γ (.slice p n c):=by rw[hO w.drew D 0 #[.slice p n c] _ (0,0) B];rfl
 have d:=Pq (n:=1) (by omega) (show s.size<4294967281 by omega) A;have j:∀W,Fr (au w.drew) w.drew W->aM θ 64 #[.string s,.int .i64 1] W λe r=>e=pT/\Fr (au W) W r:=λW f=>d W (z.nw.fw ((fs w).trans f))
 have G:=λt (f:Fr (au w.drew) w.drew t)=>dj.die (L:=L) q ((fs w).trans f)
 have g:∀o:Obj,Fr (au w.drew) w.drew (w.drew.alloc o):=λo=>eZ (fJ w.drew o ζ) λk e=>by cases e
 have u:∀o:Obj,(w.drew.alloc o).cell? ⟨D,0,ζ⟩=γ (.slice p n c):=λo=>y6 C (g o)
 clear q M hs B A z d
 go_enter aer,ntmps40
 go_wp2
 rename_i T N;refine qn [5,6,7,12] (λr=>r.cell? ⟨D,0,ζ⟩=γ (.slice p n c)) (by kernel_rfl) ?_;refine cp 0 (.pointer (γ ⟨D,0,ζ⟩)) ?_;refine cp 4 (.string s) ?_;refine cp 1 (.pointer (γ ⟨D,0,ζ⟩)) ?_;refine cp 2 (.pointer (γ ⟨D,0,ζ⟩)) ?_;refine qm [8,9,10,11,13,14] (i:=3) (v:=.slice p n c) rfl rfl (by kernel_rfl) (by kernel_rfl) (by kernel_rfl) (λ_ _ _ h=>h) (lr ⟨by rfl,λW R=>by simp[go_sem,dw,R]⟩) C ?_;simp only[jx,mF];refine aff (k:=5) (k2:=12) (by kernel_rfl) rfl rfl rfl rfl (λa l=>?_) λa l=>?_
 ·go_simp
  refine(j _ (Fr.refl _ _)).mono ?_;rintro e t ⟨x,y⟩;obtain rfl:=x;exact⟨rfl,G _ y⟩
 ·go_simp
  refine l.out _ _ (λ_=>u _) ?_;clear l a;refine gD (k:=5) (by kernel_rfl) rfl rfl (λa l=>?_);go_simp;refine(j _ (g _)).mono ?_;rintro e t ⟨x,y⟩;obtain rfl:=x;exact⟨rfl,G _ (dr (g _) y)⟩
def ahk:jC 40 m9:=λ{D L} s {w} c d f e=>by
 cases a:cS 1 s.data.toList with
 |true=>exact aro s c d f e a
 |false=>unfold m9;rw[a];exact arn s c d e a
def ahc:jC 41 mZ:=λ{_ _} s {_} a c d e=>ahd s a c d e
def ag9:jC 42 mR:=λ{_ _} s {_} a c d e=>ag_ s a c d e
def ahn:jC 43 sc:=λ{_ _} s {_} a c d e=>aho s a c d e
end
def lG(s:ρ)(i:O):ξ:= !(κ (48<=bY s i)&&κ (bY s i<=57))
def kD(s:ρ):O->Z
 |0=>0
 |i+1=>10*kD s i+(bY s i-48)
def kX(s:ρ):s.data.toList.length=s.size:=by rw[lm];rfl
def B9(s:ρ){i:O}(h:i<s.data.toList.length):bY s i=((s.data.toList[i]).toNat:Z):=by
 unfold bY;have a:i<s.data.size:=by simpa using h
 rw[cV,yn s.data i a];simp
def ah2(s:ρ):bV (lG s) s.size=s.data.toList.all ji:=by
 rw[kg,rn,bT];have e:∀i (h:i<s.data.toList.length),lG s i= !ji s.data.toList[i]:=λi h=>by
  unfold lG ji;rw[B9 s h]
  congr 2
  ·rw[kg,aL,aL];omega
  ·rw[kg,aL,aL];omega
 constructor
 ·intro h b d
  obtain⟨i,c,rfl⟩:=adY.1 d;have:=h i (by rw[<-kX];exact c);rw[e i c]at this;simpa using this
 ·intro h i c
  have a:i<s.data.toList.length:=by rw[kX];exact c
  rw[e i a,h _ (ki a)];rfl
def Zo(s:ρ):∀i:O,i<=s.size->kD s i=jv (s.data.toList.take i)
 |0,_=>rfl
 |i+1,h=>by
  have a:i<s.data.toList.length:=by rw[kX];omega
  rw[yf a];unfold kD jv;rw[Bl,Zo s i (by omega),B9 s a];rfl
def aom(s:ρ):kD s s.size=jv s.data.toList:=by rw[Zo s _ (aQ _),pA (by rw[kX];exact aQ _)]
def Pj(s:ρ):∀i:O,bV (lG s) i=ε->0<=kD s i/\kD s i<10^i
 |0,_=>by simp[kD]
 |i+1,h=>by rw[rn]at h;obtain⟨b,c⟩:=Pj s i (rn.2 λj d=>h j (by omega));have a:=h i (fA i);unfold lG at a;simp only[og,aP,aL]at a;have e:(10:Z)^(i+1)=10^i*10:=R3 _ _;unfold kD;omega
def lS(s:ρ):ξ:=κ ((s.size:Z)>0)&&(bY s 0==45)
def dT(s:ρ):ρ:=bif lS s then s.extract 1 s.size else s
def VA(s:ρ)(k:O):(s.extract k s.size).data.toList=s.data.toList.drop k:=by rw[adc,ay4,adS,pA (by rw[py,kX];exact aQ _)]
def Za(s:ρ):(lS s=ε/\∃l,s.data.toList=45::l/\(dT s).data.toList=l)\/(lS s=η/\dT s=s/\∀l,s.data.toList≠45::l):=by
 cases h:lS s with
 |true=>
  refine .inl ⟨rfl,?_⟩;unfold dT;rw[h,a6,VA];unfold lS at h;rw[aP,aL]at h;have c:=kX s
  match e:s.data.toList with
  |[]=>rw[e]at c;have:=h.1;simp at c;omega
  |b::l=>
   have d:(0:O)<s.data.toList.length:=by rw[e];simp
   have a:=B9 s d;simp only[e,yd]at a;have f:bY s 0=45:=by simpa using h.2
   have g:b=45:=by
    apply FM.1;have:(b.toNat:Z)=45:=by rw[<-f];exact a.symm
    have i:(45:υ).toNat=45:=rfl;omega
   exact⟨l,by rw[g],rfl⟩
 |false=>
  refine .inr ⟨rfl,by unfold dT;rw[h];rfl,λl e=>?_⟩;have d:(0:O)<s.data.toList.length:=by rw[e];simp
  have a:=B9 s d;simp only[e,yd]at a;have f:(bY s 0==45)=ε:=by rw[fm];exact a
  have c:=kX s;rw[e,bZ]at c;unfold lS at h;rw[f,dc]at h;cases h
def ah4(s:ρ):wh s.data.toList=(aH s.size 1 4&&bV (lG s) s.size):=by
 unfold wh;rw[ah2,kX];have e:(λb:υ=>κ (48<=b.toNat)&&κ (b.toNat<=57))=ji:=rfl;rw[e]
 congr 1
 unfold aH
 congr 1
 ·rw[kg,aL,aL];omega
 ·rw[kg,aL,aL];omega
def k9(s:ρ):ξ:=aH (dT s).size 1 4&&bV (lG (dT s)) (dT s).size
def ke(s:ρ):Z:=bif k9 s then bif lS s then-kD (dT s) (dT s).size else kD (dT s) (dT s).size else 0
def IN(s:ρ):k9 s=qc s.data.toList:=by
 unfold k9;rw[<-ah4];rcases Za s with⟨_,l,a,b⟩|⟨_,a,b⟩
 ·rw[b,a]
  rfl
 ·rw[a]
  generalize s.data.toList=L at*;unfold qc;split
  ·rename_i l
   exact aR rfl (b l)
  ·rfl
def ayg(s:ρ)(h:qc s.data.toList=ε):ke s=k8 s.data.toList:=by
 unfold ke;rw[IN,h,a6,aom];rcases Za s with⟨a,l,b,c⟩|⟨a,b,c⟩
 ·rw[a,c,b]
  rfl
 ·rw[a,b,be]
  generalize s.data.toList=L at*;unfold k8;split
  ·rename_i l
   exact aR rfl (c l)
  ·rfl
abbrev Dz:Ex->E O:=cj [0,4,5,6] [4,5] [2,3]
abbrev xG(u:ρ)(m:ξ)(n i:Z):E AV:=[.v (.string u),.v (.bool m),.v (ι n),.v (ι i)]
def asI(u:ρ)(m:ξ)(n i:Z):let b:=(↑(ay u):Z);let c:=[vI 0,vB η];let a:=[κ ((0:Z)<=i),κ (i<b)];a0 θ nH 200 K (a5 0 SV) (ar 0 50 ((Dz .normal).zip (xG u m n i))) [] (cw 50 Dz 0)
 =bif κ (i<b)then Ξ a (bif κ (bY u i<(48:Z))then rO c []else Ξ a (bif κ (bY u i> (57:Z))then rO c []else Ξ a (am.out .normal [AV.v (.string u),AV.v (.bool m),vI (aa .i64 (aa .i64 ((10:Z)*n)+aa .i64 (aa .u8 (bY u i-(48:Z))))),vI (aa .i64 (i+(1:Z)))] [])))else am.out (Ex.exit 0) [AV.v (.bool m),vI n] []:=by intros;kernel_rfl
noncomputable abbrev OD(u:ρ)(m z c:ξ)(n:Z):O->χ Sum:=bX 0 (bm 50 (Dz .normal) 0 (xG u m 0 0) [] (λa=>cond z (cond c (a .normal (ar 0 50 [(4,.v (.bool m)),(5,.v (ι n))]) []) (a .ret (ar 0 50 [(2,.v (ι 0)),(3,.v (.bool η))]) [])) .err))
def axc(s u:ρ)(m z c:ξ)(n:Z):let b:=(↑(ay s):Z);let a:=(0:Z);let g:=(qp s 1 (aT b));let h:=AV.v (.bool (bY s a==(45:Z)));let d:=(1:Z);let i:=vB η;let e:=[AV.af [vI 0,i]];let f:=(bif c then bif m then rO [AV.af [vI (aa .i64 (a-n)),vB ε]] []else rO [AV.af [vI n,vB ε]] []else rO e []);ad θ nH (OD u m z c n) 200 SV [.v (.string s)] [] (ag 0)
 =bif κ (b>a)then Ξ [κ (a<b)] (bif bY s a==(45:Z)then Ξ [κ (d<=b),κ (b<=b)] (bif !aH (↑(ay g):Z) d (4:Z)then rO e []else Ξ [cy ([AV.v (.string g),h,vI 0,vI 0]=xG u m a a/\Φ [] []),z] f)else bif !aH b d (4:Z)then rO e []else Ξ [cy ([AV.v (.string s),h,vI 0,vI 0]=xG u m a a/\Φ [] []),z] f)else bif !aH b d (4:Z)then rO e []else Ξ [cy ([AV.v (.string s),i,vI 0,vI 0]=xG u m a a/\Φ [] []),z] f:=by intros;kernel_rfl
def Lj(a:ρ->Z)(b:ρ->ξ):E SA->χ FR
 |[.v (.string s)]=>γ {val:=.af [.v (ι (a s)),.v (.bool (b s))]}
 |_=>ζ
def HS(a:ρ->Z->O->ρ)(b:ρ->Z->O)(c:ρ->Z)(d:ρ->ξ):aG:=ext (ext g0 155 (ai [.val,.val] (F1 a b))) 163 (ai [.val] (Lj c d))
abbrev DA:Ex->E O:=cj [1,6,7,8] [1,7] [4,5]
abbrev EI(k:Z)(m n:O)(i:Z):E AV:=[.v (ι k),.own 0 m,.own 1 n,.v (ι i)]
abbrev C4(m:O)(q:O->ρ)(n:O)(x:ao):E AB:=[.row ε m 1 (λj=>[.string (q j)]) 9,.row ε n 1 (qf x) 3]
def asJ(e:ρ->Z->O->ρ)(f:ρ->Z->O)(b:ρ->Z)(c:ρ->ξ)(k:Z)(m:O)(q:O->ρ)(n:O)(x:ao)(i:Z):let d:=[AB.row ε n 1 (qf x) 3];a0 θ (HS e f b c) 200 K (a5 0 S9) (ar 0 40 ((DA .normal).zip (EI k m n i))) (C4 m q n x) (cw 40 DA 0)
 =bif κ (i<(m:Z))then Ξ [κ ((0:Z)<=i),κ (i<(m:Z)),κ (aT i<m)] (bif !c (q (aT i))then rO [AV.own 0 n,vB η] d else Ξ [Δ n n,Δ (n+1) 549755813888] (am.out .normal [vI k,AV.own 0 m,AV.own 1 (n+1),vI (aa .i64 (i+(1:Z)))] [AB.row ε m 1 (λj=>[b9 (q j)]) 9,AB.row ε (n+1) 1 (λa=>[ι (bif ω a n then x a else b (q (aT i)))]) 3]))else am.out (Ex.exit 0) [vI k,AV.own 0 n] d:=by intros;kernel_rfl
noncomputable abbrev OE(k:Z)(m:O)(q:O->ρ)(x:ao)(c:ξ)(p:O):O->χ Sum:=bX 0 (bm 40 (DA .normal) 0 (EI k m 0 0) (C4 m q 0 x) (λa=>cond c (a .normal (ar 0 40 [(1,.v (ι k)),(7,.own 0 m)]) [.row ε m 1 (qf x) 3]) (a .ret (ar 0 40 [(4,.own 0 p),(5,.v (.bool η))]) [.row ε p 1 (qf x) 3])))
def axd(b:ρ->Z->O->ρ)(a:ρ->Z->O)(d:ρ->Z)(e:ρ->ξ)(s:ρ)(k:Z)(m:O)(q:O->ρ)(x:ao)(c:ξ)(p:O):ad θ (HS b a d e) (OE k m q x c p) 200 S9 [.v (.string s),.v (ι k)] [] (ag 0)=Ξ [ω (ay s) 4294967281,cy ([vI k,AV.own 0 (a s (32:Z)),AV.own 1 0,vI 0]=EI k m 0 (0:Z)/\Φ [AB.row ε (a s (32:Z)) 1 (λj=>[b9 (b s (32:Z) j)]) 9,AB.row ε 0 1 (λ_=>[]) 3] (C4 m q 0 x))] (bif c then rO [AV.af [AV.own 0 m,AV.v (.bool ((m:Z)==k))]] [AB.row ε m 1 (qf x) 3]else rO [AV.af [AV.own 0 p,vB η]] [AB.row ε p 1 (qf x) 3]):=by kernel_rfl
def kb(b:υ):ξ:=b==117||(b==100||(b==110||(b==101||(b==115||(b==119||b==116)))))
def hU:E υ->ξ
 |[b]=>kb b
 |_=>η
def bU:E υ->O
 |[a,b]=>bif a==114&&(κ (49<=b.toNat)&&κ (b.toNat<=57))then b.toNat-48 else 0
 |_=>0
def O2(w:E υ):bU w<=9:=by
 unfold bU;split
 ·rename_i a b
  cases h:a==114&&(κ (49<=b.toNat)&&κ (b.toNat<=57))with
  |true=>simp only[aP,aL]at h;rw[a6];omega
  |false=>exact ej _
 ·exact ej _
def O1(a b:υ):bU [a,b]=bif a==114&&(κ (49<=b.toNat)&&κ (b.toNat<=57))then b.toNat-48 else 0:=rfl
def anC:∀{l:E υ},bU l≠0->∃b,l=[114,b]/\49<=b.toNat/\b.toNat<=57/\bU l=b.toNat-48
 |[],h=>aR rfl h
 |[_],h=>aR rfl h
 |_::_::_::_,h=>aR rfl h
 |[a,b],h=>by
  rw[O1]at h⊢;cases q:a==114&&(κ (49<=b.toNat)&&κ (b.toNat<=57))with
  |true=>have c:=q;simp only[aP,aL,fm]at c;exact⟨b,by rw[c.1],c.2.1,c.2.2,rfl⟩
  |false=>rw[q]at h;exact aR rfl h
def anD{a b:υ}(h:bU [a,b]=0):¬a.toNat=114\/(a=114/\(b.toNat<49\/(49<=b.toNat/\57<b.toNat))):=by
 rw[O1]at h;by_cases c:a=114
 ·subst c
  refine .inr ⟨rfl,?_⟩;by_cases d:49<=b.toNat
  ·by_cases f:b.toNat<=57
   ·rw[di d,di f]at h
    have h:b.toNat-48=0:=h;omega
   ·exact .inr ⟨d,by omega⟩
  ·exact .inl (by omega)
 ·exact .inl λe=>c (FM.1 e)
def rep(k:O)(T:E υ):E υ:=(eH k T).flatten
def Aq(k:O)(T:E υ):(rep k T).length=k*T.length:=by
 unfold rep;induction k with
 |zero=>simp
 |succ k a=>rw[List.replicate_succ,Bj,bN,a,Ss];omega
def arO(k:O)(T:E υ):rep (k+1) T=rep k T++T:=by unfold rep;rw[List.replicate_succ',List.flatten_append];simp
variable {l:E υ}
def aaN(c:i≠0)(b:l≠ []):rep i l≠ []:=λh=>by have a:=Aq i l;rw[h,eY]at a;have d:=List.length_pos_iff.2 b;rcases aea.1 a.symm with h|h<;>omega
def flat:O->ξ->E (E υ)->E υ->χ (E υ×E (E υ))
 |0,_,_,_=>ζ
 |_+1,c,[],a=>bif c then ζ else γ (a,[])
 |n+1,c,w::r,a=>
  bif hU w then(bif Δ (a.length+w.length) 500 then flat n c r (a++w)else ζ)
  else bif w==[93]then(bif c&& !a.isEmpty then γ (a,r)else ζ)
  else bif Ψ (bU w) 0 then ζ
  else match flat n ε r []with
   |none=>ζ
   |some (b,d)=>bif Δ (a.length+bU w*b.length) 500 then flat n c d (a++rep (bU w) b)else ζ
def V'{P:E υ->Prop}(q:P [])(s:∀w out,hU w=ε->P out->P (out++w))(t:∀k d out,d≠ []->P d->P out->P (out++rep k d)):∀(n:O)(br:ξ)(ws:E (E υ))(out T:E υ)(r:E (E υ)),P out->flat n br ws out=γ (T,r)->P T/\r.length<=ws.length/\(br=ε->T≠ []/\r.length<ws.length):=by
 intro n;induction n with
 |zero=>intro br ws out T r _ h;cases h
 |succ n j=>
  intro br ws out T r i h
  match ws with
  |[]=>
   unfold flat at h;cases br with
   |true=>cases h
   |false=>cases h;exact⟨i,aQ _,λh=>by cases h⟩
  |w::ws=>
   unfold flat at h;rw[bZ];cases l:hU w with
   |true=>
    rw[l,a6]at h;cases g:Δ (out.length+w.length) 500 with
    |false=>rw[g]at h;cases h
    |true=>rw[g,a6]at h;obtain⟨a,b,c⟩:=j _ _ _ _ _ (s w out l i) h;exact⟨a,by omega,λf=>⟨(c f).1,by have:=(c f).2;omega⟩⟩
   |false=>
    rw[l,be]at h;cases o:w==[93]with
    |true=>
     rw[o,a6]at h;cases f:br&& !out.isEmpty with
     |false=>rw[f]at h;cases h
     |true=>rw[f]at h;cases h;rw[aP]at f;refine⟨i,by omega,λ_=>⟨λe=>?_,by omega⟩⟩;subst e;exact aR f.2 (by decide)
    |false=>
     rw[o,be]at h;cases p:Ψ (bU w) 0 with
     |true=>rw[p]at h;cases h
     |false=>
      rw[p,be]at h;cases m:flat n ε ws []with
      |none=>rw[m]at h;cases h
      |some x=>
       obtain⟨d,y⟩:=x;rw[m]at h;simp only at h;obtain⟨u,z,v⟩:=j _ _ _ _ _ q m;cases g:Δ (out.length+bU w*d.length) 500 with
       |false=>rw[g]at h;cases h
       |true=>rw[g,a6]at h;obtain⟨a,b,c⟩:=j _ _ _ _ _ (t (bU w) d out (v rfl).1 u i) h;exact⟨a,by omega,λf=>⟨(c f).1,by have:=(c f).2;omega⟩⟩
variable {q:ξ}
variable {u:E (E υ)}
def Hq{out T:E υ}{r:E (E υ)}(h:flat i q u out=γ (T,r)):r.length<=u.length/\(q=ε->T≠ []/\r.length<u.length):=
 (V' (P:=λ_=>True) trivial (λ_ _ _ _=>trivial) (λ_ _ _ _ _ _=>trivial) i q u out T r trivial h).2
def akl:∀(n m:O)(br:ξ)(ws:E (E υ))(out:E υ),ws.length<n->ws.length<m->flat n br ws out=flat m br ws out:=by
 intro n;induction n with
 |zero=>intro m br ws out h;omega
 |succ n a=>
  intro m br ws out c d
  match m with
  |0=>omega
  |m+1=>
   match ws with
   |[]=>rfl
   |w::ws=>
    rw[bZ]at c d;unfold flat;rw[a m br ws (out++w) (by omega) (by omega),a m ε ws [] (by omega) (by omega)];cases e:flat m ε ws []with
    |none=>rfl
    |some x=>obtain⟨b,f⟩:=x;have:=(Hq e).1;simp only;rw[a m br f _ (by omega) (by omega)]
def akm:∀(n:O)(br:ξ)(ws:E (E υ))(out T:E υ)(r:E (E υ)),flat n br ws out=γ (T,r)->r<:+ws:=by
 intro n;induction n with
 |zero=>intro br ws out T r h;cases h
 |succ n c=>
  intro br ws out T r h
  match ws with
  |[]=>
   unfold flat at h;cases br with
   |true=>cases h
   |false=>cases h;exact List.suffix_refl _
  |w::ws=>
   unfold flat at h;cases e:hU w with
   |true=>
    rw[e,a6]at h;cases a:Δ (out.length+w.length) 500 with
    |false=>rw[a]at h;cases h
    |true=>rw[a,a6]at h;exact(c _ _ _ _ _ h).trans (Ft _ _)
   |false=>
    rw[e,be]at h;cases f:w==[93]with
    |true=>
     rw[f,a6]at h;cases g:br&& !out.isEmpty with
     |false=>rw[g]at h;cases h
     |true=>rw[g]at h;cases h;exact Ft _ _
    |false=>
     rw[f,be]at h;cases i:Ψ (bU w) 0 with
     |true=>rw[i]at h;cases h
     |false=>
      rw[i,be]at h;cases d:flat n ε ws []with
      |none=>rw[d]at h;cases h
      |some x=>
       obtain⟨b,j⟩:=x;rw[d]at h;simp only at h;cases a:Δ (out.length+bU w*b.length) 500 with
       |false=>rw[a]at h;cases h
       |true=>rw[a,a6]at h;exact((c _ _ _ _ _ h).trans (c _ _ _ _ _ d)).trans (Ft _ _)
def fl(br:ξ)(ws:E (E υ))(out:E υ):χ (E υ×E (E υ)):=flat (ws.length+1) br ws out
def aki(br:ξ)(out:E υ):fl br [] out=bif br then ζ else γ (out,[]):=rfl
def Hp(br:ξ)(w:E υ)(r:E (E υ))(out:E υ):fl br (w::r) out=bif hU w then(bif Δ (out.length+w.length) 500 then fl br r (out++w)else ζ)else bif w==[93]then(bif br&& !out.isEmpty then γ (out,r)else ζ)else bif Ψ (bU w) 0 then ζ else match fl ε r []with
   |none=>ζ
   |some (a,b)=>bif Δ (out.length+bU w*a.length) 500 then fl br b (out++rep (bU w) a)else ζ:=by
 unfold fl;rw[bZ];show flat ((r.length+1)+1) br (w::r) out=_
 rw[flat];cases c:flat (r.length+1) ε r []with
 |none=>rfl
 |some x=>obtain⟨a,b⟩:=x;have:=(Hq c).1;simp only;rw[akl (r.length+1) (b.length+1) br b _ (by omega) (by omega)]
def V8{out:E υ}(h:hU l=ε):fl q (l::u) out=bif Δ (out.length+l.length) 500 then fl q u (out++l)else ζ:=by rw[Hp,h,a6]
def M7:fl q ([93]::u) l=bif q&& !l.isEmpty then γ (l,u)else ζ:=by rw[Hp];rfl
def akj{out:E υ}(h:hU l=η)(a:l≠ [93])(b:bU l=0):fl q (l::u) out=ζ:=by rw[Hp,h,be,cq.2 a,be,b];rfl
def akh{br:ξ}{r:E (E υ)}{out:E υ}(h:hU l=η)(b:l≠ [93])(c:bU l≠0):fl br (l::r) out=match fl ε r []with
  |none=>ζ
  |some (a,d)=>bif Δ (out.length+bU l*a.length) 500 then fl br d (out++rep (bU l) a)else ζ:=by
 rw[Hp,h,be,cq.2 b,be];rw[show Ψ (bU l) 0=η from by cases e:Ψ (bU l) 0 with|false=>rfl|true=>exact aR (cA e) c];rfl
def V7{out T:E υ}{r:E (E υ)}(h:fl q u out=γ (T,r)):r.length<=u.length/\(q=ε->T≠ []/\r.length<u.length):=Hq h
def akk{out T:E υ}{r:E (E υ)}(h:fl q u out=γ (T,r)):r<:+u:=akm _ _ _ _ _ _ h
def akg{r:E (E υ)}(h:fl q u []=γ (l,r)):l.all kb=ε:=by
 refine(V' (P:=λa=>a.all kb=ε) rfl (λw c d e=>?_) (λk f c _ j e=>?_) _ q u [] l r rfl h).1
 ·rw[gM,e,ex]
  match w,d with
  |[b],d=>rw[gA,show kb b=ε from d];rfl
 ·rw[gM,e,ex]
  refine bT.2 λx g=>?_
  unfold rep at g;obtain⟨a,m,i⟩:=List.mem_flatten.1 g;rw[(List.mem_replicate.1 m).2]at i;exact bT.1 j x i
def akn:∀(n:O)(br:ξ)(ws:E (E υ))(out T:E υ)(r:E (E υ)),out.length<=500->flat n br ws out=γ (T,r)->T.length<=500:=by
 intro n;induction n with
 |zero=>intro br ws out T r _ h;cases h
 |succ n c=>
  intro br ws out T r d h
  match ws with
  |[]=>
   unfold flat at h;cases br with
   |true=>cases h
   |false=>cases h;exact d
  |w::ws=>
   unfold flat at h;cases e:hU w with
   |true=>
    rw[e,a6]at h;cases a:Δ (out.length+w.length) 500 with
    |false=>rw[a]at h;cases h
    |true=>rw[a,a6]at h;rw[bl]at a;exact c _ _ _ _ _ (by rw[bN];exact a) h
   |false=>
    rw[e,be]at h;cases f:w==[93]with
    |true=>
     rw[f,a6]at h;cases g:br&& !out.isEmpty with
     |false=>rw[g]at h;cases h
     |true=>rw[g]at h;cases h;exact d
    |false=>
     rw[f,be]at h;cases i:Ψ (bU w) 0 with
     |true=>rw[i]at h;cases h
     |false=>
      rw[i,be]at h;cases j:flat n ε ws []with
      |none=>rw[j]at h;cases h
      |some x=>
       obtain⟨b,k⟩:=x;rw[j]at h;simp only at h;cases a:Δ (out.length+bU w*b.length) 500 with
       |false=>rw[a]at h;cases h
       |true=>rw[a,a6]at h;rw[bl]at a;exact c _ _ _ _ _ (by rw[bN,Aq];exact a) h
def V9{r:E (E υ)}(h:fl q u []=γ (l,r)):l.length<=500:=akn _ _ _ _ _ _ (ej _) h
def n7(b:υ):O:=bif b==101 then 0 else bif b==110 then 1 else bif b==119 then 2 else 3
def pm(d:O):Z:=bif Ψ d 0 then 1 else bif Ψ d 2 then-1 else 0
def pn(d:O):Z:=bif Ψ d 1 then 1 else bif Ψ d 3 then-1 else 0
structure pI where
 x:Z
 y:Z
 t:O
def o8:pI:=⟨0,0,0⟩
def eX(p:pI)(b:υ):pI:=
 bif b==117||b==100 then p else bif b==116 then⟨p.x,p.y,(p.t+1)%4⟩
 else⟨p.x+pm ((n7 b+p.t)%4),p.y+pn ((n7 b+p.t)%4),p.t⟩
def cW(l:E υ):pI:=l.foldl eX o8
def acQ(d:O):(-1<=pm d/\pm d<=1)/\ -1<=pn d/\pn d<=1:=by unfold pm pn;cases Ψ d 0<;>cases Ψ d 2<;>cases Ψ d 1<;>cases Ψ d 3<;>decide
def aas{p:pI}{b:υ}(h:(-A<=p.x/\p.x<=A)/\(-A<=p.y/\p.y<=A)/\p.t<4):(-(A+1)<=(eX p b).x/\(eX p b).x<=A+1)/\(-(A+1)<=(eX p b).y/\(eX p b).y<=A+1)/\(eX p b).t<4:=by
 unfold eX;have:=acQ ((n7 b+p.t)%4);cases b==117||b==100 with
 |true=>simp only[a6];omega
 |false=>
  cases b==116 with
  |true=>simp only[a6,be];omega
  |false=>simp only[be];omega
def PP:∀(l:E υ)(p:pI)(n:Z),((-n<=p.x/\p.x<=n)/\(-n<=p.y/\p.y<=n)/\p.t<4)->((-(n+l.length)<=(l.foldl eX p).x/\(l.foldl eX p).x<=n+l.length)/\(-(n+l.length)<=(l.foldl eX p).y/\(l.foldl eX p).y<=n+l.length)/\(l.foldl eX p).t<4)
 |[],p,n,h=>by simpa using h
 |b::l,p,n,h=>by have:=PP l (eX p b) (n+1) (aas h);rw[Bm,bZ];omega
def PQ(l:E υ):(-(l.length:Z)<=(cW l).x/\(cW l).x<=l.length)/\(-(l.length:Z)<=(cW l).y/\(cW l).y<=l.length)/\(cW l).t<4:=by have:=PP l o8 0 (by decide);unfold cW;omega
abbrev Dm:Ex->E O:=cj [0,3,4,5] [3] [2]
abbrev EF(s:ρ)(n:O)(a i:Z):E AV:=[.v (.string s),.own 0 n,.v (ι a),.v (ι i)]
def asg(s:ρ)(n:O)(ws:E ρ)(a i:Z):let b:=(↑(ay s):Z);let c:=vI (aa .i64 (i+(1:Z)));let d:=[AB.row ε n 1 (eF ws) 9];let e:=(am.out .normal [AV.v (.string s),AV.own 0 (n+1),c,c] [AB.row ε (n+1) 1 (λq=>[b9 (bif ω q n then eB ws q else qp s (aT a) (aT i))]) 9]);let f:=[κ ((0:Z)<=a),κ (a<=i),κ (i<=b),Δ n n,Δ (n+1) 549755813888];a0 θ g0 200 K (a5 0 S5) (ar 0 33 ((Dm .normal).zip (EF s n a i))) (m2 n ws) (cw 33 Dm 0)
 =bif κ (i<=b)then bif i==b then Ξ f e else Ξ [κ ((0:Z)<=i),κ (i<b)] (bif bY s i==(32:Z)then Ξ f e else am.out .normal [AV.v (.string s),AV.own 0 n,vI a,c] d)else am.out (Ex.exit 0) [AV.own 0 n] d:=by intros;kernel_rfl
noncomputable abbrev Oo(s:ρ)(m:O)(ws:E ρ):O->χ Sum:=bX 0 (bm 33 (Dm .normal) 0 (EF s 0 0 0) (m2 0 []) (λa=>a .normal (ar 0 33 [(3,.own 0 m)]) (m2 m ws)))
def awC(s:ρ)(m:O)(ws:E ρ):ad θ g0 (Oo s m ws) 200 S5 [.v (.string s)] [] (ag 0)=Ξ [cy ([AV.v (.string s),AV.own 0 0,vI 0,vI 0]=EF s 0 (0:Z) (0:Z)/\Φ [AB.row ε 0 1 (λ_=>[]) 9] (m2 0 []))] (rO [AV.own 0 m] [AB.row ε m 1 (eF ws) 9]):=by kernel_rfl
def auI(s:ρ)(hs:s.size<4294967281):ck θ 0 (.block 0 (.loop (a5 0 S5))) (bm 33 (Dm .normal) 0 (EF s 0 0 0) (m2 0 []) (λa=>a .normal (ar 0 33 [(3,.own 0 (eD s 32).length)]) (m2 (eD s 32).length (eD s 32)))):=by
 refine dQ ba (n:=200) (m:=0) (lv:=Dm) (λi=>EF s (b_ s 32 i).1.length ((b_ s 32 i).2:O) i) (λi=>m2 (b_ s 32 i).1.length (b_ s 32 i).1) (λ_=>True) (s.size+1) (λ_=>K) (du rfl rfl rfl) (aQ _) trivial λa Q j i u k=>⟨cN _ _ _,?_⟩
 have l:=se s 32 i;rw[asg];refine aD (λb=>?_) λb=>?_
 ·have b:=aV b
  have o:aa aY ((i:Z)+1)=((i+1:O):Z):=by rw[bz];omega
  rw[o,cV,cV];have g:(((i:Z)==(s.size:Z))||(bY s i==32))=ε->b_ s 32 (i+1)=((b_ s 32 i).1++[s.extract (b_ s 32 i).2 i],i+1):=λh=>by rw[b_,pi,h];rfl
  have p:(((i:Z)==(s.size:Z))||(bY s i==32))=η->b_ s 32 (i+1)=b_ s 32 i:=λh=>by rw[b_,pi,h];rfl
  refine aD (λc=>?_) λc=>aq ?_ (aD (λd=>?_) λd=>?_)
  ·refine c_ (F ⟨i+1,⟨rfl,by omega,trivial⟩,?_⟩)
   have e:=g (by rw[c];rfl);simp only[e,bN,bZ,eY];refine⟨trivial,.cons (ab.row λq f=>Jd _ _ _ rfl q f) .nil⟩
  ·have r:(i:Z)≠s.size:=by simpa using c
   simp only[Ω,ax,aj,aL];omega
  ·refine c_ (F ⟨i+1,⟨rfl,by omega,trivial⟩,?_⟩)
   have e:=g (by rw[d,RP]);simp only[e,bN,bZ,eY];refine⟨trivial,.cons (ab.row λq f=>Jd _ _ _ rfl q f) .nil⟩
  ·refine F ⟨i+1,⟨rfl,by omega,trivial⟩,?_⟩
   have e:=p (by rw[c,d];rfl);simp only[e];exact⟨trivial,Φ.refl _⟩
 ·have b:=cu b
  have:i=s.size+1:=by omega
  subst this;refine F ⟨_,Φ.refl _,?_⟩;rw[aU rfl];exact j
def oM(s:ρ)(j:O):ρ:=eB (eD s 32) j
def kU(s:ρ):O:=(eD s 32).length
def K1(g:ρ->O->ρ)(n:ρ->O):E SA->χ FR
 |[.v (.string s)]=>γ {val:=.own 0 (n s),new:=[.row ε (n s) 1 (λj=>[.string (g s j)]) 9],aw:=[ω s.size 4294967281]}
 |_=>ζ
def apd:ak θ 245 (ai [.val] (K1 oM kU)):=by
 refine ca ba func245 rfl λc e a b=>?_
 unfold K1 at a;split at a
 ·rename_i s
  cases a;simp only[Ω,ax,aj,bM]at b;refine⟨[],Oo s (eD s 32).length (eD s 32),200,Φ.refl _,da (auI s b),?_⟩;show aE (ad θ g0 (Oo s (eD s 32).length (eD s 32)) 200 S5 [.v (.string s)] [] (ag 0)) _
  rw[awC];refine aq ?_ (F ⟨_,rfl,rfl,Φ.refl _⟩);simp only[Ω,ax,aj];exact cG ⟨trivial,(.cons (ab.row λj d=>aR d (dh _)) .nil)⟩
 ·cases a
def xJ(s:ρ):ξ:=hU s.data.toList
def m4(s:ρ):Z:=(bU s.data.toList:O)
def Lz(is:ρ->ξ):E τ->χ (τ×E ξ)
 |[.string s]=>γ (.bool (is s),[])
 |_=>ζ
def Lc(a:ρ->Z):E τ->χ (τ×E ξ)
 |[.string s]=>γ (ι (a s),[])
 |_=>ζ
def aw2(s:ρ):let a:=[vB ε];ad θ g0 K 100 f272 [.v (.string s)] [] dR
 =bif cm s (ah (ap [(117:υ)]))then rO a []else bif cm s (ah (ap [(100:υ)]))then rO a []else bif cm s (ah (ap [(110:υ)]))then rO a []else bif cm s (ah (ap [(101:υ)]))then rO a []else bif cm s (ah (ap [(115:υ)]))then rO a []else bif cm s (ah (ap [(119:υ)]))then rO a []else bif cm s (ah (ap [(116:υ)]))then rO a []else rO [vB η] []:=by intros;kernel_rfl
def aw6(s:ρ):let b:=(↑(ay s):Z);let a:=(1:Z);let c:=[κ (a<b)];ad θ g0 K 100 f271 [.v (.string s)] [] dR
 =bif b != (2:Z)then rO [vI 0] []else Ξ [κ ((0:Z)<b)] (bif bY s (0:Z)!= (114:Z)then rO [vI 0] []else Ξ c (bif κ (bY s a<(49:Z))then rO [vI 0] []else Ξ c (bif κ (bY s a> (57:Z))then rO [vI 0] []else Ξ c (rO [vI (aa .i64 (aa .u8 (bY s a-(48:Z))))] [])))):=by intros;kernel_rfl
def Mx(s:ρ)(l:E υ):cm s (ah (ap l))=κ (s.data.toList=l):=by unfold cm;rw[kg,aL,aL,pq,pq]
def auz(l:E υ):hU l=(κ (l=[117])||(κ (l=[100])||(κ (l=[110])||(κ (l=[101])||(κ (l=[115])||(κ (l=[119])||κ (l=[116]))))))):=by
 match l with
 |[]=>rfl
 |[b]=>
  have e:∀c:υ,κ ([b]=[c])=(b==c):=λc=>by rw[kg,aL,fm];simp
  rw[e,e,e,e,e,e,e];rfl
 |_::_::_=>
  have e:∀(a b c:υ)(l:E υ),κ (a::b::l=[c])=η:=λa b c l=>gN λh=>by simp at h
  rw[e,e,e,e,e,e,e];rfl
def Z7:ak θ 272 (aW (Lz xJ)):=by
 refine et (n:=100) ba func272 rfl λl x m d o=>?_
 unfold Lz at d;split at d
 ·rename_i s
  simp only[aC,cI]at d;obtain⟨rfl,rfl⟩:=d;have e:=aw2 s;simp only[eG,kQ];rw[e];simp only[Mx];unfold xJ;rw[auz]
  suffices h:aE _ (oI (.bool (κ (s.data.toList=[117])||(κ (s.data.toList=[100])||(κ (s.data.toList=[110])||(κ (s.data.toList=[101])||(κ (s.data.toList=[115])||(κ (s.data.toList=[119])||κ (s.data.toList=[116])))))))))from⟨h.out⟩
  refine aD (λc=>F ⟨_,rfl,by rw[c];rfl⟩) λa=>?_
  refine aD (λc=>F ⟨_,rfl,by rw[a,c];rfl⟩) λb=>?_
  refine aD (λc=>F ⟨_,rfl,by rw[a,b,c];rfl⟩) λf=>?_
  refine aD (λc=>F ⟨_,rfl,by rw[a,b,f,c];rfl⟩) λg=>?_
  refine aD (λc=>F ⟨_,rfl,by rw[a,b,f,g,c];rfl⟩) λi=>?_
  refine aD (λc=>F ⟨_,rfl,by rw[a,b,f,g,i,c];rfl⟩) λj=>?_
  refine aD (λc=>F ⟨_,rfl,by rw[a,b,f,g,i,j,c];rfl⟩) λk=>F ⟨_,rfl,by rw[a,b,f,g,i,j,k];rfl⟩
 ·cases d
def anA(s:ρ):(s.size=2/\∃a b:υ,s.data.toList=[a,b]/\bY s 0=a.toNat/\bY s 1=b.toNat)\/(s.size≠2/\m4 s=0):=by
 have c:s.data.toList.length=s.size:=by rw[lm];rfl
 by_cases h:s.size=2
 ·left
  refine⟨h,?_⟩
  match e:s.data.toList,c.trans h with
  |[a,b],_=>
   have d:s.data= #[a,b]:=by rw[<-Array.toList_inj,e]
   refine⟨a,b,rfl,?_,?_⟩
   ·unfold bY;rw[d];rfl
   ·unfold bY;rw[d];rfl
 ·right
  refine⟨h,?_⟩;unfold m4
  match e:s.data.toList with
  |[]=>rfl
  |[_]=>rfl
  |[_,_]=>rw[e]at c;exact aR c.symm h
  |_::_::_::_=>rfl
def ZY:ak θ 271 (aW (Lc m4)):=by
 refine et (n:=100) ba func271 rfl λp x q d r=>?_
 unfold Lc at d;split at d
 ·rename_i s
  simp only[aC,cI]at d;obtain⟨rfl,rfl⟩:=d;have e:=aw6 s;simp only[eG,kQ];rw[e]
  suffices h:aE _ (oI (ι (m4 s)))from⟨h.out⟩
  rcases anA s with⟨i,a,b,j,k,l⟩|⟨i,m⟩
  ·have o:m4 s=((bif a==114&&(κ (49<=b.toNat)&&κ (b.toNat<=57))then b.toNat-48 else 0:O):Z):=by unfold m4;rw[j,O1]
   rw[o,k,l,i];refine bA rfl (aq rfl (aD (λc=>F ⟨_,rfl,?_⟩) λc=>aq rfl (aD (λf=>F ⟨_,rfl,?_⟩) λf=>aq rfl (aD (λg=>F ⟨_,rfl,?_⟩) λg=>aq rfl (F ⟨_,rfl,?_⟩)))))
   ·have c:¬(a.toNat:Z)=114:=by simpa using c
    rw[show(a==114)=η from cq.2 λe=>c (by rw[e];rfl)];rfl
   ·have f:=aV f
    rw[show κ (49<=b.toNat)=η from gF,l5,g7];rfl
   ·have g:=aV g
    rw[show κ (b.toNat<=57)=η from gF,g7,g7];rfl
   ·have c:(a.toNat:Z)=114:=by simpa using c
    have f:=cu f;have g:=cu g;rw[show(a==114)=ε from fm.2 (FM.1 (by rw[show(114:υ).toNat=114 from rfl];omega)),show κ (49<=b.toNat)=ε from dc,show κ (b.toNat<=57)=ε from dc];rw[Fh,bz];show γ (ι (((b.toNat:Z) -48)%256))=γ (ι (((b.toNat-48:O)):Z))
    rw[show((b.toNat:Z) -48)%256=((b.toNat-48:O):Z) by omega]
  ·rw[m]
   refine cv ?_ (F ⟨_,rfl,rfl⟩);simpa using λh:(s.size:Z)=2=>i (by omega)
 ·cases d
structure BM where
 T:E υ
 r:χ (E (E υ))
 d:ξ
def cQ:O->ξ->E (E υ)->E υ->BM
 |0,_,_,a=>⟨a,ζ,η⟩
 |_+1,b,[],a=>⟨a,bif b||a.isEmpty then ζ else γ [],ε⟩
 |n+1,b,w::r,a=>
  bif hU w then(bif ω 500 (a.length+1)then⟨a++w,ζ,η⟩else cQ n b r (a++w))
  else bif ω 0 (bU w)then
   (match(cQ n ε r []).r with
   |none=>⟨a,ζ,η⟩
   |some c=>bif ω 500 ((cQ n ε r []).T.length*bU w)then⟨a,ζ,η⟩
    else bif ω 500 (a++rep (bU w) (cQ n ε r []).T).length then⟨a++rep (bU w) (cQ n ε r []).T,ζ,η⟩
    else cQ n b c (a++rep (bU w) (cQ n ε r []).T))
  else bif w==[93]&&(b&& !a.isEmpty)then⟨a,γ r,η⟩else⟨a,ζ,η⟩
def Ho:∀(n:O)(br:ξ)(ws:E (E υ))(out:E υ)(r:E (E υ)),(cQ n br ws out).r=γ r->r<:+ws/\((cQ n br ws out).d=ε->r=[]):=by
 intro n;induction n with
 |zero=>intro br ws out r h;cases h
 |succ n e=>
  intro br ws out r h
  match ws with
  |[]=>
   unfold cQ at h⊢;cases g:br||out.isEmpty with
   |true=>rw[g]at h;cases h
   |false=>rw[g]at h;cases h;exact⟨List.suffix_refl _,λ_=>rfl⟩
  |w::ws=>
   unfold cQ at h⊢;cases i:hU w with
   |true=>
    rw[i,a6]at h;simp only[a6];cases c:ω 500 (out.length+1)with
    |true=>rw[c]at h;cases h
    |false=>rw[c,be]at h;simp only[be];obtain⟨a,b⟩:=e _ _ _ _ h;exact⟨a.trans (Ft _ _),b⟩
   |false=>
    rw[i,be]at h;simp only[be];cases j:ω 0 (bU w)with
    |true=>
     rw[j,a6]at h;simp only[a6];cases f:(cQ n ε ws []).r with
     |none=>rw[f]at h;cases h
     |some l=>
      rw[f]at h;simp only at h⊢;cases c:ω 500 ((cQ n ε ws []).T.length*bU w)with
      |true=>rw[c]at h;cases h
      |false=>
       rw[c,be]at h;simp only[be];cases d:ω 500 (out++rep (bU w) (cQ n ε ws []).T).length with
       |true=>rw[d]at h;cases h
       |false=>rw[d,be]at h;simp only[be];obtain⟨a,b⟩:=e _ _ _ _ h;exact⟨(a.trans (e _ _ _ _ f).1).trans (Ft _ _),b⟩
    |false=>
     rw[j,be]at h;simp only[be];cases k:w==[93]&&(br&& !out.isEmpty)with
     |true=>rw[k]at h;cases h;exact⟨Ft _ _,λh=>by cases h⟩
     |false=>rw[k]at h;cases h
def aka:∀(n m:O)(br:ξ)(ws:E (E υ))(out:E υ),ws.length<n->ws.length<m->cQ n br ws out=cQ m br ws out:=by
 intro n;induction n with
 |zero=>intro m br ws out h;omega
 |succ n a=>
  intro m br ws out b c
  match m with
  |0=>omega
  |m+1=>
   match ws with
   |[]=>rfl
   |w::ws=>
    rw[bZ]at b c;unfold cQ;rw[a m br ws (out++w) (by omega) (by omega),a m ε ws [] (by omega) (by omega)];cases d:(cQ m ε ws []).r with
    |none=>rfl
    |some e=>have:=(Ho _ _ _ _ _ d).1.length_le;simp only;rw[a m br e _ (by omega) (by omega)]
def dP(br:ξ)(ws:E (E υ))(out:E υ):BM:=cQ (ws.length+1) br ws out
def akf(br:ξ)(out:E υ):dP br [] out=⟨out,bif br||out.isEmpty then ζ else γ [],ε⟩:=rfl
def akc(br:ξ)(w:E υ)(r:E (E υ))(out:E υ):dP br (w::r) out=bif hU w then(bif ω 500 (out.length+1)then⟨out++w,ζ,η⟩else dP br r (out++w))else bif ω 0 (bU w)then(match(dP ε r []).r with
   |none=>⟨out,ζ,η⟩
   |some a=>bif ω 500 ((dP ε r []).T.length*bU w)then⟨out,ζ,η⟩
    else bif ω 500 (out++rep (bU w) (dP ε r []).T).length then⟨out++rep (bU w) (dP ε r []).T,ζ,η⟩
    else dP br a (out++rep (bU w) (dP ε r []).T))else bif w==[93]&&(br&& !out.isEmpty)then⟨out,γ r,η⟩else⟨out,ζ,η⟩:=by
 unfold dP;rw[bZ];show cQ ((r.length+1)+1) br (w::r) out=_
 rw[cQ];cases b:(cQ (r.length+1) ε r []).r with
 |none=>rfl
 |some a=>have:=(Ho _ _ _ _ _ b).1.length_le;simp only;rw[aka (r.length+1) (a.length+1) br a _ (by omega) (by omega)]
def ake{r:E (E υ)}(h:(dP q u l).r=γ r):r<:+u:=(Ho _ _ _ _ _ h).1
def Im:∀{w:E υ},hU w=ε->w.length=1
 |[_],_=>rfl
def akb:∀(n:O)(br:ξ)(ws:E (E υ))(out:E υ),out.length<=500->(cQ n br ws out).T.length<=1000/\((cQ n br ws out).r.isSome=ε->(cQ n br ws out).T.length<=500):=by
 intro n;induction n with
 |zero=>intro br ws out h;exact⟨by show out.length<=1000;omega,λh=>by cases h⟩
 |succ n c=>
  intro br ws out d
  match ws with
  |[]=>exact⟨by show out.length<=1000;omega,λ_=>d⟩
  |w::ws=>
   unfold cQ;cases f:hU w with
   |true=>
    have i:=Im f;simp only[a6];cases a:ω 500 (out.length+1)with
    |true=>simp only[a6,bN];exact⟨by omega,λh=>by cases h⟩
    |false=>
     simp only[be];have:¬500<out.length+1:=λh=>by rw[show ω 500 (out.length+1)=ε from by rw[bM];exact h]at a;cases a
     exact c _ _ _ (by rw[bN];omega)
   |false=>
    simp only[be];cases j:ω 0 (bU w)with
    |true=>
     simp only[a6];cases k:(cQ n ε ws []).r with
     |none=>exact⟨by show out.length<=1000;omega,λh=>by cases h⟩
     |some l=>
      simp only;cases a:ω 500 ((cQ n ε ws []).T.length*bU w)with
      |true=>exact⟨by show out.length<=1000;omega,λh=>by cases h⟩
      |false=>
       simp only[be];have g:¬500<(cQ n ε ws []).T.length*bU w:=λh=>by rw[show ω 500 ((cQ n ε ws []).T.length*bU w)=ε from by rw[bM];exact h]at a;cases a
       cases b:ω 500 (out++rep (bU w) (cQ n ε ws []).T).length with
       |true=>simp only[a6];refine⟨?_,λh=>by cases h⟩;rw[bN,Aq,tE];omega
       |false=>
        simp only[be];have e:¬500<(out++rep (bU w) (cQ n ε ws []).T).length:=λh=>by rw[show ω 500 (out++rep (bU w) (cQ n ε ws []).T).length=ε from by rw[bM];exact h]at b;cases b
        exact c _ _ _ (by omega)
    |false=>
     simp only[be];cases w==[93]&&(br&& !out.isEmpty)with
     |true=>exact⟨by show out.length<=1000;omega,λ_=>d⟩
     |false=>exact⟨by show out.length<=1000;omega,λh=>by cases h⟩
def V6(br:ξ)(ws:E (E υ)):(dP br ws []).T.length<=1000/\((dP br ws []).r.isSome=ε->(dP br ws []).T.length<=500):=akb _ _ _ _ (ej _)
def aj_:∀(n:O)(br:ξ)(ws:E (E υ))(out:E υ),(cQ n br ws out).d=ε->(cQ n br ws out).r=bif br||(cQ n br ws out).T.isEmpty then ζ else γ []:=by
 intro n;induction n with
 |zero=>intro br ws out h;cases h
 |succ n c=>
  intro br ws out h
  match ws with
  |[]=>rfl
  |w::ws=>
   unfold cQ at h⊢;cases d:hU w with
   |true=>
    rw[d]at h;simp only[a6]at h⊢;cases a:ω 500 (out.length+1)with
    |true=>rw[a]at h;cases h
    |false=>rw[a]at h;simp only[be]at h⊢;exact c _ _ _ h
   |false=>
    rw[d]at h;simp only[be]at h⊢;cases e:ω 0 (bU w)with
    |true=>
     rw[e]at h;simp only[a6]at h⊢;cases f:(cQ n ε ws []).r with
     |none=>rw[f]at h;cases h
     |some i=>
      rw[f]at h;simp only at h⊢;cases a:ω 500 ((cQ n ε ws []).T.length*bU w)with
      |true=>rw[a]at h;cases h
      |false=>
       rw[a]at h;simp only[be]at h⊢;cases b:ω 500 (out++rep (bU w) (cQ n ε ws []).T).length with
       |true=>rw[b]at h;cases h
       |false=>rw[b]at h;simp only[be]at h⊢;exact c _ _ _ h
    |false=>
     rw[e]at h;simp only[be]at h⊢;cases g:w==[93]&&(br&& !out.isEmpty)with
     |true=>rw[g]at h;cases h
     |false=>rw[g]at h;cases h
def M6(h:(dP q u l).d=ε):(dP q u l).r=bif q||(dP q u l).T.isEmpty then ζ else γ []:=aj_ _ _ _ _ h
def aj':∀(n:O)(br:ξ)(ws:E (E υ))(out:E υ),ws.length<n->out.length<=500->(br=η->ws≠ []\/out≠ [])->flat n br ws out=(cQ n br ws out).r.map λr=>((cQ n br ws out).T,r):=by
 intro n;induction n with
 |zero=>intro br ws out h;omega
 |succ n b=>
  intro br ws out k t l
  match ws with
  |[]=>
   unfold flat cQ;cases br with
   |true=>rfl
   |false=>
    have h:=(l rfl).resolve_left λh=>h rfl
    cases out with
    |nil=>exact aR rfl h
    |cons=>rfl
  |w::ws=>
   rw[bZ]at k;unfold flat cQ;cases m:hU w with
   |true=>
    have c:=Im m;simp only[a6,c];by_cases d:out.length+1<=500
    ·rw[show Δ (out.length+1) 500=ε from by rw[bl];exact d,show ω 500 (out.length+1)=η from by cases e:ω 500 (out.length+1)with|false=>rfl|true=>rw[bM]at e;omega]
     simp only[a6,be];exact b _ _ _ (by omega) (by rw[bN];omega) λ_=>.inr λe=>by rw[adO]at e;rw[e.2]at c;cases c
    ·rw[show Δ (out.length+1) 500=η from by cases e:Δ (out.length+1) 500 with|false=>rfl|true=>rw[bl]at e;omega,show ω 500 (out.length+1)=ε from by rw[bM];omega]
     rfl
   |false=>
    simp only[be];cases f:ω 0 (bU w)with
    |true=>
     have a:bU w≠0:=by rw[bM]at f;omega
     have o:(w==[93])=η:=cq.2 λe=>a (by rw[e];rfl)
     rw[o,be,show Ψ (bU w) 0=η from by cases e:Ψ (bU w) 0 with|false=>rfl|true=>exact aR (cA e) a];simp only[be,a6];rw[b ε ws [] (by omega) (ej _) (λh=>by cases h)];cases j:(cQ n ε ws []).r with
     |none=>rfl
     |some u=>
      have g:(cQ n ε ws []).T≠ []:=by have:=b ε ws [] (by omega) (ej _) (λh=>by cases h);rw[j]at this;exact((Hq this).2 rfl).1
      have p:=(Ho _ _ _ _ _ j).1.length_le;simp only[Bw];have q:=Aq (bU w) (cQ n ε ws []).T;have i:=aaN a g;have s:=tE (bU w) (cQ n ε ws []).T.length;by_cases d:out.length+bU w*(cQ n ε ws []).T.length<=500
      ·rw[show Δ (out.length+bU w*(cQ n ε ws []).T.length) 500=ε from by rw[bl];exact d,show ω 500 ((cQ n ε ws []).T.length*bU w)=η from by cases e:ω 500 ((cQ n ε ws []).T.length*bU w)with|false=>rfl|true=>rw[bM]at e;omega,show ω 500 (out++rep (bU w) (cQ n ε ws []).T).length=η from by cases e:ω 500 (out++rep (bU w) (cQ n ε ws []).T).length with|false=>rfl|true=>rw[bM,bN]at e;omega]
       simp only[a6,be];exact b _ _ _ (by omega) (by rw[bN];omega) λ_=>.inr λe=>i (adO.1 e).2
      ·rw[show Δ (out.length+bU w*(cQ n ε ws []).T.length) 500=η from by cases e:Δ (out.length+bU w*(cQ n ε ws []).T.length) 500 with|false=>rfl|true=>rw[bl]at e;omega]
       simp only[be];cases ω 500 ((cQ n ε ws []).T.length*bU w)with
       |true=>rfl
       |false=>rw[show ω 500 (out++rep (bU w) (cQ n ε ws []).T).length=ε from by rw[bM,bN];omega];rfl
    |false=>
     have a:bU w=0:=by
      rcases qs (bU w)with h|h
      ·exact h
      ·rw[show ω 0 (bU w)=ε from by rw[bM];exact h]at f;cases f
     rw[a];cases w==[93]with
     |true=>simp only[a6,be,ex];cases br&& !out.isEmpty<;>rfl
     |false=>rfl
def akd(h:q=η->u≠ []):fl q u []=(dP q u []).r.map λr=>((dP q u []).T,r):=aj' _ _ _ _ (fA _) (ej _) λe=>.inl (h e)
def qE(a:O->(O->E τ)->Z->ξ->O)(c:O->(O->E τ)->Z->ξ->O->ρ)(d:O->(O->E τ)->Z->ξ->Z)(e:O->(O->E τ)->Z->ξ->ξ):E SA->χ FR
 |[.row n g,.v (.int .i64 i),.v (.bool b)]=>γ {val:=.af [.own 0 (a n g i b),.v (ι (d n g i b))],new:=[.row ε (a n g i b) 1 (λj=>[.string (c n g i b j)]) 9],aw:=[e n g i b]}
 |_=>ζ
abbrev sR:E Md:=[.rd 1 9,.val,.val]
def zx(is:ρ->ξ)(a:ρ->Z)(b:O->(O->E τ)->Z->ξ->O)(c:O->(O->E τ)->Z->ξ->O->ρ)(d:O->(O->E τ)->Z->ξ->Z)(e:O->(O->E τ)->Z->ξ->ξ):aG:=
 ext (ext (ext g0 272 (aW (Lz is))) 271 (aW (Lc a))) 244 (ai sR (qE b c d e))
abbrev wQ:Ex->E O:=cj [0,1,2,8] [1,2,8] [6,7]
abbrev Du:Ex->E O:=cj [0,2,8,10,11,12,13] [0,2,8,12] [6,7]
abbrev nM(n:O)(ws:E ρ)(m:O)(x:O->ρ):E AB:=[.row η n 1 (eF ws) 9,.row ε m 1 (λj=>[.string (x j)]) 9]
abbrev AJ(n i:O)(b:ξ)(m:O):E AV:=[.sl 0 1 0 0 n ζ,.v (ι i),.v (.bool b),.own 1 m]
abbrev wF(n:O)(ws:E ρ)(m:O)(x:O->ρ)(a:O)(b:O->ρ):E AB:=[.row η n 1 (eF ws) 9,.row ε m 1 (λj=>[.string (x j)]) 9,.row ε a 1 (λj=>[.string (b j)]) 9]
abbrev xE(n:O)(b:ξ)(m:O)(k:Z)(a:O)(e:Z)(j:O):E AV:=[.sl 0 1 0 0 n ζ,.v (.bool b),.own 1 m,.v (ι k),.own 2 a,.v (ι e),.v (ι j)]
def asw(n:O)(ws:E ρ)(b:ξ)(m:O)(x:O->ρ)(k:Z)(a:O)(c:O->ρ)(e:Z)(j:O):let d:=AB.row η n 1 (eF ws) 9;let f:=AV.sl 0 1 0 0 n ζ;a0 θ g0 200 K (a5 3 yk) (ar 0 91 ((Du .normal).zip (xE n b m k a e j))) (wF n ws m x a c) (cw 91 Du 1)
 =bif κ ((↑j:Z)<k)then Ξ [Δ m m,Δ (m+a) 549755813888,Δ a a] (am.out .normal [f,AV.v (.bool b),AV.own 1 (m+a),vI k,AV.own 2 a,vI e,vI (aa .i64 ((↑j:Z)+(1:Z)))] [d,AB.row ε (m+a) 1 (λq=>[b9 (bif ω q m then x q else c (q-m))]) 9,AB.row ε a 1 (λj=>[b9 (c j)]) 9])else am.out (Ex.exit 3) [f,AV.v (.bool b),AV.own 1 m,vI e] [d,AB.row ε m 1 (λj=>[b9 (x j)]) 9]:=by intros;kernel_rfl
noncomputable abbrev Ov(n:O)(ws:E ρ)(b:ξ)(m:O)(x:O->ρ)(k:Z)(c:O)(f:O->ρ)(e:Z)(d:O)(g:O->ρ):O->χ Sum:=bX 3 (bm 91 (Du .normal) 1 (xE n b m k c e 0) (wF n ws m x c f) (λa=>a .normal (ar 0 91 [(0,.sl 0 1 0 0 n ζ),(2,.v (.bool b)),(8,.own 1 d),(12,.v (ι e))]) (nM n ws d g)))
def asx(is:ρ->ξ)(u:ρ->Z)(A:O->(O->E τ)->Z->ξ->O)(B:O->(O->E τ)->Z->ξ->O->ρ)(w:O->(O->E τ)->Z->ξ->Z)(C:O->(O->E τ)->Z->ξ->ξ)(n:O)(ws:E ρ)(i:O)(b:ξ)(m:O)(x:O->ρ)(k:Z)(y:O)(D:O->ρ)(e:Z)(s:O)(G:O->ρ):let v:=AB.row η n 1 (eF ws) 9;let H:=[v,AB.row ε s 1 (λj=>[b9 (G j)]) 9];let I:=AB.row ε m 1 (λj=>[b9 (x j)]) 9;let r:=(↑i:Z);let g:=AV.sl 0 1 0 0 n ζ;let d:=AV.v (.bool b);let f:=AV.own 1 m;let h:=vI (-1:Z);let a:=(m+1);let l:=(500:Z);let o:=[v,I];let p:=(aa .i64 (r+(1:Z)));let L:=(0+aT r);let t:=[f,h];let M:=[v,AB.row ε a 1 (λq=>[b9 (bif ω q m then x q else eB ws L)]) 9];let z:=(A n (λq=>eF ws (0+q)) p ε);let c:=(eB ws L);a0 θ (zx is u A B w C) 200 (Ov n ws b m x k y D e s G) (a5 0 yk) (ar 0 91 ((wQ .normal).zip (AJ n i b m))) (nM n ws m x) (cw 91 wQ 1)
 =bif κ (r<(↑n:Z))then Ξ [κ (r<(↑n:Z)),κ (0+aT r<n)] (bif is c then Ξ [Δ m m,Δ a 549755813888] (bif κ ((↑a:Z)>l)then rO [AV.own 1 a,h] M else am.out .normal [g,vI p,d,AV.own 1 a] M)else bif κ (u c> (0:Z))then Ξ [Δ (0+n) n,C n (λq=>eF ws (0+q)) p ε] (bif κ (w n (λq=>eF ws (0+q)) p ε<(0:Z))then rO t o else bif κ (aa .i64 ((↑z:Z)*u c)>l)then rO t o else Ξ [cy ([g,d,f,vI (u c),AV.own 2 z,vI (w n (λq=>eF ws (0+q)) p ε),vI 0]=xE n b m k y e 0/\Φ [v,I,AB.row ε z 1 (λj=>[b9 (B n (λq=>eF ws (0+q)) p ε j)]) 9] (wF n ws m x y D))] (bif κ ((↑s:Z)>l)then rO [AV.own 1 s,h] H else am.out .normal [g,vI e,d,AV.own 1 s] H))else bif cm c (ah (ap [(93:υ)]))then bif b then bif κ ((m:Z)> (0:Z))then rO [f,vI p] o else rO t o else rO t o else rO t o)else am.out (Ex.exit 0) [vI r,d,f] o:=by intros;kernel_rfl
noncomputable abbrev Ow(n:O)(ws:E ρ)(d:O->ρ)(i:O)(b:ξ)(c:ξ)(m:O)(x:O->ρ)(e:Z):O->χ Sum:=bX 0 (bm 91 (wQ .normal) 1 (AJ n i b 0) (nM n ws 0 d) (λa=>cond c (a .normal (ar 0 91 [(1,.v (ι n)),(2,.v (.bool b)),(8,.own 1 m)]) (nM n ws m x)) (a .ret (ar 0 91 [(6,.own 1 m),(7,.v (ι e))]) (nM n ws m x))))
def awS(is:ρ->ξ)(h:ρ->Z)(k:O->(O->E τ)->Z->ξ->O)(l:O->(O->E τ)->Z->ξ->O->ρ)(o:O->(O->E τ)->Z->ξ->Z)(p:O->(O->E τ)->Z->ξ->ξ)(n:O)(ws:E ρ)(d:O->ρ)(i:O)(b c:ξ)(m:O)(x:O->ρ)(e:Z):let f:=[AV.af [AV.own 1 m,vI (-1:Z)]];let g:=AB.row η n 1 (eF ws) 9;let a:=[g,AB.row ε m 1 (λj=>[b9 (x j)]) 9];ad θ (zx is h k l o p) (Ow n ws d i b c m x e) 200 yk [.sl 0 1 0 0 n ζ,.v (ι i),.v (.bool b)] [.row η n 1 (eF ws) 9] (ag 1)
 =Ξ [cy ([AV.sl 0 1 0 0 n ζ,vI (↑i:Z),AV.v (.bool b),AV.own 1 0]=AJ n i b 0/\Φ [g,AB.row ε 0 1 (λ_=>[]) 9] (nM n ws 0 d))] (bif c then bif b then rO f a else bif (m:Z)==(0:Z)then rO f a else rO [AV.af [AV.own 1 m,vI (↑n:Z)]] a else rO [AV.af [AV.own 1 m,vI e]] a):=by intros;kernel_rfl
def c8(T:E υ)(j:O):ρ:=⟨[T.getD j 0].toArray⟩
def aac{A B:E υ}{q:O}(_:q<A.length+B.length):(bif ω q A.length then c8 A q else c8 B (q-A.length))=c8 (A++B) q:=by
 unfold c8;by_cases h:q<A.length
 ·rw[show ω q A.length=ε from by rw[bM];exact h,a6]
  rw[cX,cX,kN h]
 ·rw[show ω q A.length=η from by cases e:ω q A.length with|false=>rfl|true=>rw[bM]at e;omega,be]
  rw[cX,cX,oi (by omega)]
variable {D:ρ}
def aq0(a:D.data.toList.length=1)(d:i<l.length+1):(bif ω i l.length then c8 l i else D)=c8 (l++D.data.toList) i:=by
 have b:D=c8 D.data.toList 0:=by
  match e:D.data.toList,a with
  |[c],_=>apply qI;rw[e];rfl
 have:=aac (A:=l) (B:=D.data.toList) (q:=i) (by omega);rw[<-this];by_cases h:i<l.length
 ·rw[show ω i l.length=ε from by rw[bM];exact h]
  rfl
 ·rw[show ω i l.length=η from by cases e:ω i l.length with|false=>rfl|true=>rw[bM]at e;omega,be,be,show i-l.length=0 by omega]
  exact b
abbrev cY(ws:E ρ):E (E υ):=ws.map (·.data.toList)
def iI(n:O)(g:O->E τ)(i:Z)(b:ξ):BM:=dP b ((cY (strs g n)).drop i.toNat) []
def qN(n:O)(r:χ (E (E υ))):Z:=match r with
 |none=> -1
 |some r=>((n-r.length:O):Z)
def kC(n:O)(g:O->E τ)(i:Z)(b:ξ):O:=(iI n g i b).T.length
def kW(n:O)(g:O->E τ)(i:Z)(b:ξ)(j:O):ρ:=c8 (iI n g i b).T j
def kV(n:O)(g:O->E τ)(i:Z)(b:ξ):Z:=qN n (iI n g i b).r
def j5(k n:O)(g:O->E τ)(i:Z)(_:ξ):ξ:=mO n g&&(Δ n 1000&&(κ (0<=i)&&(κ (i<=n)&&ω (n-i.toNat) k)))
def Q1{ws:E ρ}(h:ws.length=i):strs (λq=>eF ws (0+q)) i=ws:=by
 subst h;apply R'
 ·simp[strs]
 ·intro a c b
  simp[strs,eF,eB,fU,b]
def ae'(n:O)(ws:E ρ):mO n (λq=>eF ws (0+q))=ε:=bT.2 λ_ _=>rfl
def auQ(n:O)(ws:E ρ)(b:ξ)(A B:E υ)(k:O)(e:Z)(s:k<=9)(t:A.length<=500)(l:B.length<=1000):ck θ 1 (.block 3 (.loop (a5 3 yk))) (bm 91 (Du .normal) 1 (xE n b A.length k B.length e 0) (wF n ws A.length (c8 A) B.length (c8 B)) (λa=>a .normal (ar 0 91 [(0,.sl 0 1 0 0 n ζ),(2,.v (.bool b)),(8,.own 1 (A++rep k B).length),(12,.v (ι e))]) (nM n ws (A++rep k B).length (c8 (A++rep k B))))):=by
 have h:A++rep 0 B=A:=by simp[rep]
 have d:(xE n b A.length k B.length e 0)=xE n b (A++rep 0 B).length k B.length e (0:O):=by rw[h]
 have f:wF n ws A.length (c8 A) B.length (c8 B)=wF n ws (A++rep 0 B).length (c8 (A++rep 0 B)) B.length (c8 B):=by rw[h]
 rw[d,f];refine dQ ba (n:=200) (m:=1) (lv:=Du) (λj=>xE n b (A++rep j B).length k B.length e j) (λj=>wF n ws (A++rep j B).length (c8 (A++rep j B)) B.length (c8 B)) (λ_=>True) k (λ_=>K) (du rfl rfl rfl) (aQ _) trivial λa Q g j v o=>⟨cN _ _ _,?_⟩
 rw[asw];refine aD (λc=>?_) λc=>?_
 ·have c:=aV c
  have w:(A++rep j B).length<=10000:=by rw[bN,Aq];have:=qu (show j<=9 by omega) l;omega
  have i:A++rep (j+1) B=(A++rep j B)++B:=by rw[arO,jN]
  have p:aa aY ((j:Z)+1)=((j+1:O):Z):=by rw[bz];omega
  rw[p];refine c_ (F ⟨j+1,⟨rfl,by omega,trivial⟩,?_,?_⟩)
  ·simp only[i,bN]
  ·simp only[i,bN]
   refine .cons (ab.refl _) (.cons (ab.row λq r=>?_) (.cons (ab.refl _) .nil));have:=aac (A:=A++rep j B) (B:=B) (q:=q) (by simpa using r);rw[bN]at this;rw[this]
 ·have c:=cu c
  have:j=k:=by omega
  subst this;refine F ⟨_,Φ.refl _,?_⟩;rw[aU rfl];exact g
def v7{a b:O}(h:a<b):ω a b=ε:=by rw[bM];exact h
def B5{a b:O}(h:¬a<b):ω a b=η:=by
 cases e:ω a b with
 |false=>rfl
 |true=>rw[bM]at e;exact aR e h
def auR(hp:ak θ 244 (ai sR (qE kC kW kV (j5 i))))(n:O)(ws:E ρ)(S:ws.length=n)(k:n<=1000)(x:O)(b:ξ)(hi0:x<=n)(hk0:n-x<i+1)(X:BM)(hX:X=dP b ((cY ws).drop x) []):ck θ 1 (.block 0 (.loop (a5 0 yk))) (bm 91 (wQ .normal) 1 (AJ n x b 0) (nM n ws 0 (c8 [])) (λd=>cond X.d (d .normal (ar 0 91 [(1,.v (ι n)),(2,.v (.bool b)),(8,.own 1 X.T.length)]) (nM n ws X.T.length (c8 X.T))) (d .ret (ar 0 91 [(6,.own 1 X.T.length),(7,.v (ι (qN n X.r)))]) (nM n ws X.T.length (c8 X.T))))):=by
 have gmk:aK θ (zx xJ m4 kC kW kV (j5 i)):=az (az (az ba Z7) ZY) hp;refine Dd gmk (n:=200) (m:=1) (lv:=wQ) (σ:=E υ×O) (λs=>AJ n s.2 b s.1.length) (λs=>nM n ws s.1.length (c8 s.1)) (λs=>X=dP b ((cY ws).drop s.2) s.1/\s.1.length<=500/\x<=s.2/\s.2<=n) (λs=>n-s.2) ([],x)
  (λs=>Ov n ws b s.1.length (c8 s.1) (m4 (eB ws s.2)) (dP ε ((cY ws).drop (s.2+1)) []).T.length (c8 (dP ε ((cY ws).drop (s.2+1)) []).T) (qN n (dP ε ((cY ws).drop (s.2+1)) []).r) (s.1++rep (bU (eB ws s.2).data.toList) (dP ε ((cY ws).drop (s.2+1)) []).T).length (c8 (s.1++rep (bU (eB ws s.2).data.toList) (dP ε ((cY ws).drop (s.2+1)) []).T)))
  (du rfl rfl rfl) (aQ _) ⟨hX,ej _,aQ _,hi0⟩ λd Q y s G=>?_
 obtain⟨g,e⟩:=s;obtain⟨f,ho,hi1,hi2⟩:=G;simp only at f ho hi1 hi2;have H:=V6 ε ((cY ws).drop (e+1));refine⟨wL (c:=a5 3 yk) (by kernel_rfl) (auQ n ws b g _ (bU (eB ws e).data.toList) _ (O2 _) ho H.1),?_⟩;have o:∀T,X=⟨T,ζ,η⟩->(d .ret (ar 0 91 [(6,.own 1 T.length),(7,.v (ι (-1)))]) (nM n ws T.length (c8 T))).ok Q:=λT h=>by rw[h]at y;exact y
 show aE (a0 θ (zx xJ m4 kC kW kV (j5 i)) 200 (Ov n ws b g.length (c8 g) (m4 (eB ws e)) (dP ε ((cY ws).drop (e+1)) []).T.length (c8 (dP ε ((cY ws).drop (e+1)) []).T) (qN n (dP ε ((cY ws).drop (e+1)) []).r) (g++rep (bU (eB ws e).data.toList) (dP ε ((cY ws).drop (e+1)) []).T).length (c8 (g++rep (bU (eB ws e).data.toList) (dP ε ((cY ws).drop (e+1)) []).T))) (a5 0 yk) (ar 0 91 ((wQ .normal).zip (AJ n e b g.length))) (nM n ws g.length (c8 g)) (cw 91 wQ 1)) _
 rw[asx];rw[cV];refine aD (λU=>?_) λU=>?_
 ·have c1':e<n:=by have:=aV U;omega
  have hlt:e<(cY ws).length:=by rw[dv];omega
  have hdr:(cY ws).drop e=(eB ws e).data.toList::(cY ws).drop (e+1):=by rw[Fo hlt];simp[eB,show e<ws.length by omega]
  have ew:aa aY ((e:Z)+1)=((e+1:O):Z):=by rw[bz];omega
  rw[hdr,akc]at f;have hst:xJ (eB ws e)=hU (eB ws e).data.toList:=rfl;have z:m4 (eB ws e)=((bU (eB ws e).data.toList:O):Z):=rfl;have heq:cm (eB ws e) (ah (ap [(93:υ)]))=((eB ws e).data.toList==[93]):=by rw[Mx,kg,aL,fm]
  have I:∀q,(eB ws e).data.toList.length=1->q<g.length+1->(bif ω q g.length then c8 g q else eB ws e)=c8 (g++(eB ws e).data.toList) q:=λq A L=>aq0 A L
  have M:kC n (λq=>eF ws (0+q)) ((e+1:O):Z) ε=(dP ε ((cY ws).drop (e+1)) []).T.length:=by unfold kC iI;rw[Q1 S,cV]
  have N:kV n (λq=>eF ws (0+q)) ((e+1:O):Z) ε=qN n (dP ε ((cY ws).drop (e+1)) []).r:=by unfold kV iI;rw[Q1 S,cV]
  have P:∀j,kW n (λq=>eF ws (0+q)) ((e+1:O):Z) ε j=c8 (dP ε ((cY ws).drop (e+1)) []).T j:=λj=>by unfold kW iI;rw[Q1 S,cV]
  have R:j5 i n (λq=>eF ws (0+q)) ((e+1:O):Z) ε=ε:=by unfold j5;rw[ae',show Δ n 1000=ε from by rw[bl];exact k,di (by omega:(0:Z)<=((e+1:O):Z)),di (by omega:((e+1:O):Z)<=n),cV,v7 (by omega)];rfl
  simp only[bH]at M N P R;simp only[bH,ew,M,N,P];refine c_ ?_;rw[hst];generalize hlw:(eB ws e).data.toList=t at*;cases G:hU t with
  |true=>
   have A:=Im G;rw[G,a6]at f;refine cv rfl (c_ (aD (λp=>?_) λp=>?_))
   ·have p:=aV p
    rw[v7 (by omega),a6]at f;have:=o _ f;rw[show(g++t).length=g.length+1 by rw[bN,A]]at this;exact F ⟨_,.cons (ab.refl _) (.cons (ab.row λq L=>by rw[I q A L]) .nil),this⟩
   ·have p:=cu p
    rw[B5 (by omega),be]at f;refine F ⟨(g++t,e+1),⟨⟨f,by rw[bN];omega,by omega,by omega⟩,by omega⟩,?_,?_⟩
    ·simp only[bN,A]
    ·simp only[bN,A]
     exact .cons (ab.refl _) (.cons (ab.row λq L=>by rw[I q A L]) .nil)
  |false=>
   rw[G,be]at f;refine bA rfl (aD (λp=>?_) λp=>?_)
   ·have p:0<bU t:=by have:=aV p;rw[z]at this;omega
    rw[v7 p,a6]at f;refine aq (by simp only[Ω,ax,aj,bl,R];omega) ?_;generalize hB:dP ε ((cY ws).drop (e+1)) []=B at*;cases W:B.r with
    |none=>rw[W]at f;refine cv rfl ?_;exact F ⟨_,Φ.refl _,o _ f⟩
    |some v=>
     have hB5:B.T.length<=500:=H.2 (by rw[W];rfl);have hk9:=O2 t;have hmul:B.T.length*bU t<=500*9:=qu hB5 hk9;have w:=(ake (by rw[hB];exact W:(dP ε ((cY ws).drop (e+1)) []).r=γ v));have hrl:=w.length_le;rw[py,dv]at hrl;have hrd:v=(cY ws).drop (n-v.length):=by have:=azm.1 (w.trans (List.drop_suffix _ _));rw[dv,S]at this;exact this
     rw[W]at f;simp only at f;have hwm:aa aY ((B.T.length:Z)*m4 (eB ws e))=((B.T.length*bU t:O):Z):=by rw[z,bz (by rw[<-Int.natCast_mul];omega)];exact(Int.natCast_mul _ _).symm
     rw[hwm];refine bA (gN (by show ¬((n-v.length:O):Z)<0;omega)) (aD (λr=>?_) λr=>?_)
     ·have r:=aV r
      rw[v7 (by omega),a6]at f;exact F ⟨_,Φ.refl _,o _ f⟩
     ·have r:=cu r
      rw[B5 (by omega),be]at f;refine aq (by simp only[Ω,ax,aj];exact cG ⟨rfl,Φ.refl _⟩) (aD (λu=>?_) λu=>?_)
      ·have u:=aV u
       rw[v7 (by omega),a6]at f;exact F ⟨_,Φ.refl _,o _ f⟩
      ·have u:=cu u
       rw[B5 (by omega),be]at f;refine F ⟨(g++rep (bU t) B.T,n-v.length),⟨⟨by rw[<-hrd];exact f,by show(g++rep (bU t) B.T).length<=500;omega,by show x<=n-v.length;omega,by show n-v.length<=n;omega⟩,by show n-(n-v.length)<n-e;omega⟩,rfl,Φ.refl _⟩
   ·have p:¬0<bU t:=by have:=cu p;rw[z]at this;omega
    rw[B5 p,be]at f;rw[heq];refine aD (λr=>aD (λu=>aD (λC=>?_) λC=>?_) λu=>?_) λr=>?_
    ·have C:=aV C
     have D:g.isEmpty=η:=by
      cases g with
      |nil=>exact aR C (by decide)
      |cons=>rfl
     rw[r,u,D]at f;have f:X=⟨g,γ ((cY ws).drop (e+1)),η⟩:=f;rw[f]at y;have he:qN n (γ ((cY ws).drop (e+1)))=((e+1:O):Z):=by unfold qN;simp only[py,dv];omega
     rw[he]at y;exact F ⟨_,Φ.refl _,y⟩
    ·have C:=cu C
     have D:g.isEmpty=ε:=by
      cases g with
      |nil=>rfl
      |cons a l=>rw[bZ]at C;omega
     rw[r,u,D]at f;exact F ⟨_,Φ.refl _,o _ f⟩
    ·rw[r,u]at f
     exact F ⟨_,Φ.refl _,o _ f⟩
    ·rw[r]at f
     exact F ⟨_,Φ.refl _,o _ f⟩
 ·have U:=cu U
  have hin:e=n:=by omega
  subst hin;have hdn:(cY ws).drop e=[]:=azf (by rw[dv];omega);rw[hdn,akf]at f;rw[f]at y;refine F ⟨_,Φ.refl _,?_⟩;rw[aU rfl];exact y
variable {N:ae}
variable {p:O->E τ}
def afb(h:mO i p=ε):ab (.row η i 1 p N) (.row η i 1 (eF (strs p i)) N):=ab.row λj a=>by rw[yS h a];simp[eF,eB,strs,a]
def akz(s:ak θ 244 (ai sR (qE kC kW kV (j5 i)))):ak θ 244 (ai sR (qE kC kW kV (j5 (i+1)))):=by
 have r:aK θ (zx xJ m4 kC kW kV (j5 i)):=az (az (az ba Z7) ZY) s;refine ca r func244 rfl λw H o t=>?_
 unfold qE at o;split at o
 ·rename_i n g a b
  cases o;simp only[Ω,ax,aj]at t;have l:=t;unfold j5 at l;simp only[aP,bl,aL,bM]at l;obtain⟨u,x,y,I,v⟩:=l;obtain⟨c,rfl⟩:=rQ y;rw[cV]at v;have z:(strs g n).length=n:=by simp[strs]
  have f:iI n g (c:Z) b=dP b ((cY (strs g n)).drop c) []:=by unfold iI;rw[cV]
  have A:=V6 b ((cY (strs g n)).drop c);refine⟨[.row η n 1 (eF (strs g n)) 9],Ow n (strs g n) (c8 []) c b (iI n g c b).d (iI n g c b).T.length (c8 (iI n g c b).T) (qN n (iI n g c b).r),200,.cons (afb u) .nil,da (auR s n (strs g n) z x c b (by omega) v _ f),?_⟩;show aE (ad θ (zx xJ m4 kC kW kV (j5 i)) (Ow n (strs g n) (c8 []) c b (iI n g c b).d (iI n g c b).T.length (c8 (iI n g c b).T) (qN n (iI n g c b).r)) 200 yk [.sl 0 1 0 0 n ζ,.v (ι (c:Z)),.v (.bool b)] [.row η n 1 (eF (strs g n)) 9] (ag 1)) _
  rw[awS];have h:∀e:Z,e=qN n (iI n g c b).r->aE (.out .ret [.af [.own 1 (iI n g c b).T.length,.v (ι e)]] [.row η n 1 (eF (strs g n)) 9,.row ε (iI n g c b).T.length 1 (λj=>[.string (c8 (iI n g c b).T j)]) 9]) (dX (bJ sR [.row n g,.v (ι (c:Z)),.v (.bool b)] []) {val:=.af [.own 0 (kC n g c b),.v (ι (kV n g c b))],new:=[.row ε (kC n g c b) 1 (λj=>[.string (kW n g c b j)]) 9],aw:=[j5 (i+1) n g c b]}):=λe G=>by subst G;exact F ⟨_,rfl,rfl,.cons (ab.row λj p=>by rw[yS u p];simp[eF,eB,strs,p]) (Φ.refl _)⟩
  refine aq (by simp only[Ω,ax,aj];exact cG ⟨trivial,.cons (ab.refl _) (.cons (ab.row λj p=>aR p (dh _)) .nil)⟩) ?_;refine aD (λm=>aD (λq=>h _ ?_) λq=>aD (λd=>h _ ?_) λd=>h _ ?_) λm=>h _ rfl
  ·subst q
   rw[f]at m⊢;rw[M6 m];rfl
  ·subst q
   rw[f]at m d⊢;have d:((dP η ((cY (strs g n)).drop c) []).T.length:Z)=0:=by simpa using d
   rw[M6 m,List.isEmpty_iff.2 (Sj.1 (by omega))];rfl
  ·subst q
   rw[f]at m d⊢;have d:¬((dP η ((cY (strs g n)).drop c) []).T.length:Z)=0:=λe=>by rw[e]at d;cases d
   rw[M6 m,show(dP η ((cY (strs g n)).drop c) []).T.isEmpty=η from by
    cases e:(dP η ((cY (strs g n)).drop c) []).T with
    |nil=>rw[e]at d;exact aR rfl d
    |cons=>rfl]
   show(n:Z)=((n-0:O):Z)
   rw[Bu]
 ·cases o
def akA:ak θ 244 (ai sR (qE kC kW kV (j5 0))):=by
 refine nc enters func244 rfl λc d a b=>?_
 unfold qE at a;split at a
 ·cases a
  simp only[Ω,ax,aj]at b;unfold j5 at b;simp only[aP,bM]at b;omega
 ·cases a
def Wn:∀k:O,ak θ 244 (ai sR (qE kC kW kV (j5 k)))
 |0=>akA
 |k+1=>akz (Wn k)
def apB:ak θ 244 (ai sR (qE kC kW kV (j5 1002))):=Wn 1002
abbrev O6:τ:=.iface 57 (.agg #[])
def Qa(tmps:aX τ)(w:ψ):(results f45 tmps).run θ w=.ok (.tuple #[]) w:=by simp[results]
def agW(p:cM)(w:ψ):CallsD θ 45 #[.pointer (γ p)] .returning w λe c w'=>e=.returned (.tuple #[])/\c=.returning/\w'=w:=by
 have mixed:=mixed;refine Ku aes rfl λa d b=>?_
 apply wpS_seq;apply KF;simp[wpOpsS,go_sem,Kz,b,aeA,JT];apply KE
 go_wp2
 exact⟨rfl,.returning,by cases a;simp at b;subst b;rfl,.tuple #[],Qa _ _,rfl,rfl,rfl⟩
def avu(w:ψ):(Be O6 20 57 ε).run θ w=.ok (.tuple #[.agg #[],.bool ε]) w:=nX (by kernel_rfl) w
def avw(w:ψ):(Be Ej 20 57 ε).run θ w=.ok (.tuple #[.agg #[],.bool η]) w:=nX (by kernel_rfl) w
def avx(w:ψ):(Be Ej 20 58 ε).run θ w=.ok (.tuple #[.agg #[],.bool ε]) w:=nX (by kernel_rfl) w
abbrev RA:ρ:=⟨#[119,104,97,116]⟩
abbrev Pk:ρ:=⟨#[110,111]⟩
def U2(p:cM)(x:τ)(a:E PanicEntry)(w:ψ)(d:w.cell? p=γ x)(f:w.frozen? p=η)(b:p.block<w.heap.size):CallsD θ 45 #[.pointer (γ p)] (.panicking ({v:=O6,recovered:=η}::a)) w λe g w'=>e=.returned (.tuple #[])/\g=.panicking ({v:=O6,recovered:=ε}::a)/\∃o,w'=(w.alloc o).setCell p (.string RA):=by
 have mixed:=mixed;have h:∀o,(w.alloc o).cell? p=γ x:=λo=>(oB (gJ w o _ b)).trans d
 have i:∀o,(w.alloc o).frozen? p=η:=λo=>(FO (gJ w o _ b)).trans f
 have k:=avu;refine Ku aes rfl λc l j=>?_
 apply wpS_seq;apply KF;simp[wpOpsS,go_sem,Kz,j,aeA,JT];apply KE
 go_wp2
 refine⟨rfl,_,rfl,.tuple #[],Qa _ _,rfl,rfl,_,rfl⟩
def agX(p:cM)(x:τ)(a:E PanicEntry)(w:ψ)(d:w.cell? p=γ x)(f:w.frozen? p=η)(b:p.block<w.heap.size):CallsD θ 45 #[.pointer (γ p)] (.panicking ({v:=Ej,recovered:=η}::a)) w λe g w'=>e=.returned (.tuple #[])/\g=.panicking ({v:=Ej,recovered:=ε}::a)/\∃o,w'=(w.alloc o).setCell p (.string Pk):=by
 have mixed:=mixed;have h:∀o,(w.alloc o).cell? p=γ x:=λo=>(oB (gJ w o _ b)).trans d
 have i:∀o,(w.alloc o).frozen? p=η:=λo=>(FO (gJ w o _ b)).trans f
 have k:=avw;have l:=avx;refine Ku aes rfl λc m j=>?_
 apply wpS_seq;apply KF;simp[wpOpsS,go_sem,Kz,j,aeA,JT];apply KE
 go_wp2
 refine⟨rfl,_,rfl,.tuple #[],Qa _ _,rfl,rfl,_,rfl⟩
def rK:E (E υ×ξ×dm):=[([97,100,100],ε,28),([97,114,101,97],ε,42),([97,116],ε,40),([98,97,99,107],η,35),([102,97,115,116,101,114],ε,34),([102,111,108,100],η,38),([103,114,105,100],ε,41),([105,110],ε,30),([108,97,116,101,114],ε,33),([109,105,114,114,111,114],η,36),([111,117,116],ε,31),([112,101,114,105,111,100],η,39),([112,108,111,116],ε,44),([115,101,116],ε,27),([115,104,111,119],η,37),([115,117,109],η,43),([116,105,109,101,115],ε,29),([116,117,114,110],ε,32)]
def nd(l:E υ):χ (ξ×dm):=(rK.find? λx=>x.1==l).map (·.2)
def rC:τ->χ (l6 Unit×E yg)
 | .agg (ap [.bool r,.func (.func f) (ap []) (ap [])])=>γ (.agg [.lit (.bool r),.lit (.int .i64 f)],[])
 | .agg (ap [.bool r,.nilFunc])=>γ (.agg [.lit (.bool r),.lit (.int .i64 (-1))],[])
 |_=>ζ
def dC(x:E υ×ξ×dm):Lit×l6 Unit:=(.string x.1,.agg [.lit (.bool x.2.1),.lit (.int .i64 x.2.2)])
def Ju:l6 Unit:=.map (rK.map dC)
def aaE(d:l6 Unit)(x:E υ×ξ×dm):l6 Unit:=d.put (dC x).1 (dC x).2
def acY:E (E υ×ξ×dm):=[([115,101,116],ε,27),([97,100,100],ε,28),([116,105,109,101,115],ε,29),([105,110],ε,30),([111,117,116],ε,31),([116,117,114,110],ε,32),([108,97,116,101,114],ε,33),([102,97,115,116,101,114],ε,34),([98,97,99,107],η,35),([109,105,114,114,111,114],η,36),([115,104,111,119],η,37),([102,111,108,100],η,38),([112,101,114,105,111,100],η,39),([97,116],ε,40),([103,114,105,100],ε,41),([97,114,101,97],ε,42),([115,117,109],η,43),([112,108,111,116],ε,44)]
def avy:acY.foldl aaE (.map [])=Ju:=by kernel_rfl
def alD(l:E υ):Maps.has Ju (.string l)=(nd l).isSome:=by
 show(rK.map dC).any (λp=>p.1.sameKey (.string l))=_
 unfold nd;generalize rK=a;induction a with
 |nil=>rfl
 |cons x a b=>
  rw[eG,List.any_cons,J1];show(x.1==l||_)=_
  cases h:x.1==l with
  |true=>rfl
  |false=>rw[JP];exact b
def afv(l:E υ)(z:l6 Unit):Ju.atKey (.string l) z=match nd l with|some y=>.agg [.lit (.bool y.1),.lit (.int .i64 y.2)]|none=>z:=by
 unfold Ju DataW.atKey nd;simp only;generalize rK=a;induction a with
 |nil=>rfl
 |cons x a b=>
  rw[eG,J1,J1];have e:(dC x).1.sameKey (.string l)=(x.1==l):=rfl;rw[e];cases h:(x.1==l)with
  |true=>rfl
  |false=>exact b
variable {I:dm}
def PY{v:τ}{ps:E yg}(h:rC v=γ (.agg [.lit (.bool q),.lit (.int .i64 I)],ps)):v=.agg #[.bool q,.func (.func I) #[] #[]]:=by
 unfold rC at h;split at h
 ·simp only[aC,cI,RS,mE,RT,azn,ad4,aj,bv]at h
  obtain⟨⟨rfl,h⟩,_⟩:=h;have:=Int.ofNat.inj h;subst this;rfl
 ·simp only[aC,cI,RS,mE,RT,ad4,aj,bv]at h
  obtain⟨⟨_,h⟩,_⟩:=h;exact aR h (by omega)
 ·cases h
def Q9(h:nd l=γ (q,I)):(l,q,I)∈rK:=by unfold nd at h;simp only[dL]at h;obtain⟨x,c,d⟩:=h;have g:=azk c;have i:=List.find?_some c;have e:=eq_of_beq i;obtain⟨a,b⟩:=x;simp only at e d;subst e d;exact g
def Yv:Maps.Keyed θ 9:=Maps.string_keyed (by kernel_rfl)
def ab1:θ.underlying 55=γ (.map 9 54):=by kernel_rfl
def ab3:θ.underlying 9=γ .string:=by kernel_rfl
def T7(b:O):E (E υ×ξ×dm)->ψ->ψ->Prop
 |[],w,a=>w=a
 |x::l,w,a=>∃c,(Instr.mapUpdate 55 (.map (γ b)) (.string ⟨x.1.toArray⟩) (.agg #[.bool x.2.1,.func (.func x.2.2) #[] #[]])).run θ w=.ok () c/\T7 b l c a
def V3{b:O}:∀(l:E (E υ×ξ×dm))(n:O)(D:l6 Unit)(w:ψ),w.ownsMap θ 9 rC b n D->(∀x∈l,x.1.length<=1000)->n+l.length<=1000->∃w',T7 b l w w'/\w'.ownsMap θ 9 rC b (n+l.length) (l.foldl aaE D)/\w.mapTurned w' b
 |[],n,D,w,h,_,_=>⟨w,rfl,h,h.turned_refl⟩
 |x::l,n,D,w,h,a,e=>by rw[bZ]at e;obtain⟨c,f,g,i⟩:=h.store Yv ab1 (by unfold maxLen;omega) (key:=.string ⟨x.1.toArray⟩) (val:=.agg #[.bool x.2.1,.func (.func x.2.2) #[] #[]]) (kl:=(dC x).1) (d:=(dC x).2) (ps:=[]) (ay9 ab3 (by rw[m6];have:=a x jA;unfold maxLen;omega)) rfl;obtain⟨m,o,p,q⟩:=V3 l (n+1) _ c g (λy r=>a y (l8 _ r)) (by omega);refine⟨m,⟨c,f,o⟩,?_,i.trans q⟩;rw[bZ,show n+(l.length+1)=n+1+l.length by omega];exact p
abbrev mN:=E υ->E Wh->E υ->χ (E Wh×E υ)
def jZ(a:mN)(L:E Wh)(line:E υ):E Wh×E υ:=
 match nd (e_ line [32]).1 with
 |some (r,_)=>bif r==(e_ line [32]).2.2 then(match a (e_ line [32]).1 L (e_ line [32]).2.1 with
  |some x=>x
  |none=>(L,[110,111]))else(L,[119,104,97,116])
 |none=>(L,[119,104,97,116])
def BS(a:mN)(line:E υ):Prop:=∀r f,nd (e_ line [32]).1=γ (r,f)->r=(e_ line [32]).2.2->jC f (a (e_ line [32]).1)
def aeI(D:O)(x:E Wh×E υ)(w:ψ)(e:jM)(w':ψ):Prop:=
 e=.returned (.string ⟨x.2.toArray⟩)/\dW D x.1 w'/\bK x.1/\Fr (cn w D) w w'
def agl(s:ρ)(w:ψ)(a:a4 (au w) w)(hs:s.size<=1000):aM θ 46 #[.string s,.string ⟨#[32]⟩] w (gm w (.tuple #[.string ⟨(e_ s.data.toList [32]).1.toArray⟩,.string ⟨(e_ s.data.toList [32]).2.1.toArray⟩,.bool (e_ s.data.toList [32]).2.2])):=
 JD Pz [.string s,.string ⟨#[32]⟩] (δ:={val:=.v (.tuple #[.string (pR s ⟨#[32]⟩),.string (gE s ⟨#[32]⟩),.bool (GC s ⟨#[32]⟩)]),aw:=[ω s.size 4294967281]}) rfl rfl (by simp only[Ω,ax,aj,bM];omega) rfl rfl a
def ay0(w:ψ):(zeroValue 54).run θ w=.ok (.agg #[.bool η,.nilFunc]) w:=by kernel_rfl
def arB{v:τ}{ps:E yg}(h:rC v=γ (.agg [.lit (.bool η),.lit (.int .i64 (-1))],ps)):v=.agg #[.bool η,.nilFunc]:=by
 unfold rC at h;split at h
 ·simp only[aC,cI,RS,mE,RT,ad4,aj,bv]at h
  obtain⟨⟨_,h⟩,_⟩:=h;exact aR h (by omega)
 ·simp only[aC,cI,RS,mE,RT,azn,aj]at h
  obtain⟨rfl,_⟩:=h;rfl
 ·cases h
def ayJ:(rK.all λx=>(match θ.funcs[x.2.2]?with|some fn=>fn.body.isSome|none=>η))=ε:=by kernel_rfl
def aiQ(h:nd l=γ (q,I))(args:aX τ)(w:ψ):(g_ I args).run θ w=.ok (.enter I args) w:=by
 have a:=bT.1 ayJ _ (Q9 h);simp only at a;cases b:θ.funcs[I]?with
 |none=>rw[b]at a;cases a
 |some fn=>rw[b]at a;exact enters I fn b a args w
def Vl(l c:E υ):(e_ l c).1.length<=l.length/\(e_ l c).2.1.length<=l.length:=by
 unfold e_;split
 ·simp only[pz,py];omega
 ·simp
def Wf{w W:ψ}(f:Fr (au w) w W)(o:Obj)(v:τ):Fr (au w) w ((W.alloc o).setCell ⟨w.heap.size,0,ζ⟩ v):=by have a:Fr (au w) w (W.alloc o):=f.trans (eZ (fJ W o ζ) λk e=>by cases e);refine a.trans ⟨rfl,rfl,rfl,by simp[mL],λk _ b=>kM _ _ _ _ (λe=>b ?_)⟩;exact Ka e.symm
def bj.box{v x y:τ}{b:O×O}(h:bj X v L)(c:X.heap[i]?=γ (.cells #[x] 9 b)):bj (X.setCell ⟨i,0,ζ⟩ y) v L:=by
 refine h.kept (by simp[mL]) λk _ ⟨l,d,a⟩=>kM _ _ _ _ λe=>?_
 have e:k=i:=e;rw[e,c]at a;simp only[aC,rT]at a;exact aR a.2.1 (by decide)
def dW.box{D B:O}{L:E Wh}{w:ψ}{x y:τ}{a:O×O}(h:dW D L w)(b:w.heap[B]?=γ (.cells #[x] 9 a))(d:B≠D):dW D L (w.setCell ⟨B,0,ζ⟩ y):=by obtain⟨p,n,c,e,f⟩:=h;refine⟨p,n,c,?_,f.box b⟩;rw[kM _ _ _ _ (show D≠B from d.symm)];exact e
def aku{w W:ψ}(f:Fr (cn w i) w W)(o:Obj)(v:τ):Fr (cn w i) w ((W.alloc o).setCell ⟨w.heap.size,0,ζ⟩ v):=by have a:Fr (cn w i) w (W.alloc o):=f.trans (eZ (fJ W o ζ) λk e=>by cases e);refine a.trans ⟨rfl,rfl,rfl,by simp[mL],λk _ b=>kM _ _ _ _ (λe=>b ?_)⟩;exact .inl (Ka e.symm)
def akw{w W:ψ}(f:Fr (cn w i) w W)(v:τ):Fr (cn w i) w (W.setCell ⟨w.heap.size,0,ζ⟩ v):=by refine f.trans ⟨rfl,rfl,rfl,by simp[mL],λk _ a=>kM _ _ _ _ (λe=>a ?_)⟩;exact .inl (Ka e.symm)
def af0{Sg:mN}{D:O}{L:E Wh}(s:ρ){w:ψ}(hd:dW D L w)(ht:a4 (cn w D) w)(v:bK L)(hs:s.size<=1000)(n:BS Sg s.data.toList):aM θ 17 #[.pointer (γ ⟨D,0,ζ⟩),.string s] w (aeI D (jZ Sg L s.data.toList) w):=by
 have mixed:=mixed;have hmf:∀(fn:Fn)(first cap:aX τ)(w:ψ),(R0 fn first cap).run θ w=.ok (.func fn first cap) w:=λ_ _ _ _=>rfl
 obtain⟨wm,q⟩:∃wm,(w.alloc (.cells #[.string ⟨#[]⟩] 9)).alloc (.map #[] 0)=wm:=⟨_,rfl⟩;have hm0:wm.ownsMap θ 9 rC (w.heap.size+1) 0 (.map []):=by have:=World.ownsMap_made (w.alloc (.cells #[.string ⟨#[]⟩] 9)) θ 9 rC;rw[q]at this;simpa using this
 obtain⟨wf,R,z,p⟩:=V3 acY 0 _ wm hm0 (by decide) (by decide);rw[avy]at z;obtain⟨x0,h0,⟨x1,h1,⟨x2,h2,⟨x3,h3,⟨x4,h4,⟨x5,h5,⟨x6,N,⟨x7,h7,⟨x8,h8,⟨x9,h9,⟨x10,h10,⟨x11,h11,⟨x12,h12,⟨x13,h13,⟨x14,h14,⟨x15,h15,⟨x16,h16,⟨l,h17,rfl⟩⟩⟩⟩⟩⟩⟩⟩⟩⟩⟩⟩⟩⟩⟩⟩⟩⟩:=R;simp only[]at h0 h1 h2 h3 h4 h5 N h7 h8 h9 h10 h11 h12 h13 h14 h15 h16 h17;have hmk:(Instr.makeMap 55 ζ).run θ (w.alloc (.cells #[.string ⟨#[]⟩] 9))=.ok (.map (γ (w.heap.size+1))) wm:=by rw[run_makeMap,<-q];simp
 clear hm0;have fa:Fr (au w) w l:=by
  refine(dr (eZ (fJ w (.cells #[.string ⟨#[]⟩] 9) ζ) λk e=>by cases e) (eZ (M:=au _) (q▸fJ (w.alloc (.cells #[.string ⟨#[]⟩] 9)) (.map #[] 0) ζ) λk e=>by cases e)).trans (eZ p.grown λk e=>?_);cases e;show w.heap.size<=w.heap.size+1
  omega
 have a:l.heap[w.heap.size]?=γ (.cells #[.string ⟨#[]⟩] 9 (0,0)):=by rw[p.grown.block _ (by rw[<-q];simp;omega) (by simp),<-q];exact(gJ (w.alloc (.cells #[.string ⟨#[]⟩] 9)) _ w.heap.size (by simp)).trans (oz _ _)
 have hc:=agl s l (ht.nw.fw fa) hs;have hsz:(e_ s.data.toList [32]).1.length<=1000:=cF (Vl _ _).1 (by rw[show s.data.toList.length=s.size from rfl];exact hs);have hsr:(e_ s.data.toList [32]).2.1.length<=1000:=cF (Vl _ _).2 (by rw[show s.data.toList.length=s.size from rfl];exact hs);have d:=λ(c:ψ)(g:Fr (au l) l c)=>(z.kept (Pr g) (by simp)).look_ok Yv ab1 (ay0 c) rfl (ay9 ab3 (s:=⟨(e_ s.data.toList [32]).1.toArray⟩) (by rw[m6];unfold maxLen;omega))
 simp only[alD,afv]at d;clear p q z;unfold jZ;unfold BS at n;generalize(e_ s.data.toList [32]).2.1=rst at*;generalize(e_ s.data.toList [32]).2.2=dt at*;generalize(e_ s.data.toList [32]).1=wd at*;cases v:nd wd with
 |none=>
  simp only[v]at d;clear n v
  go_enter_defers Tf,Ts
  go_wp2_with (go_at_call 46;refine hc.mono ?_;rintro e c ⟨rfl,g⟩;obtain⟨lv,S,U,A⟩:=d c g;obtain rfl:=arB A;clear A)
  have B:w.heap.size<c.heap.size:=eN (cC.1 a).1 g.size;have b:(c.alloc (.cells #[.bool η,.nilFunc] 54)).heap[w.heap.size]?=γ (.cells #[.string ⟨#[]⟩] 9 (0,0)):=(gJ _ _ _ B).trans ((g.block _ (cC.1 a).1 (gi.2 (cC.1 a).1)).trans a);have X:Fr (au w) w (c.alloc (.cells #[.bool η,.nilFunc] 54)):=(dr fa g).trans (eZ (fJ c _ ζ) λk e=>by cases e);generalize hW:c.alloc (.cells #[.bool η,.nilFunc] 54)=W at*;have i:w.heap.size<W.heap.size:=(cC.1 b).1;have j:W.cell? ⟨w.heap.size,0,ζ⟩=γ (.string ⟨#[]⟩):=by rw[hO W _ 0 #[.string ⟨#[]⟩] _ (0,0) b];rfl
  have u:W.frozen? ⟨w.heap.size,0,ζ⟩=η:=tO W _ 0 #[.string ⟨#[]⟩] _ b;refine yo (f:=45) (args:= #[.pointer (γ ⟨w.heap.size,0,ζ⟩)]) (by simp) (by simp[go_sem]) ?_;refine(U2 ⟨w.heap.size,0,ζ⟩ (.string ⟨#[]⟩) [] _ j u i).mono ?_;rintro e u' w'' ⟨rfl,rfl,o,rfl⟩;have C:(W.alloc o).cell? ⟨w.heap.size,0,ζ⟩=γ (.string ⟨#[]⟩):=(oB (gJ W o _ i)).trans j;have G:=Wf X o (.string RA);simp[xY,yp,results,Tx,go_sem,C];exact⟨rfl,hd.fr G,v,G.o6⟩
 |some rf=>
  obtain⟨r,f⟩:=rf;simp only[v]at d;have ew:=aiQ v;have n:=n r f v;clear v;cases H:r==dt with
  |false=>
   clear n;simp only[H,be]
   go_enter_defers Tf,Ts
   go_wp2_with (go_at_call 46;refine hc.mono ?_;rintro e c ⟨rfl,g⟩;obtain⟨lv,S,U,A⟩:=d c g;obtain rfl:=PY A;clear A)
   have B:w.heap.size<c.heap.size:=eN (cC.1 a).1 g.size;have b:(c.alloc (.cells #[.bool r,.func (.func f) #[] #[]] 54)).heap[w.heap.size]?=γ (.cells #[.string ⟨#[]⟩] 9 (0,0)):=(gJ _ _ _ B).trans ((g.block _ (cC.1 a).1 (gi.2 (cC.1 a).1)).trans a);have X:Fr (au w) w (c.alloc (.cells #[.bool r,.func (.func f) #[] #[]] 54)):=(dr fa g).trans (eZ (fJ c _ ζ) λk e=>by cases e);generalize hW:c.alloc (.cells #[.bool r,.func (.func f) #[] #[]] 54)=W at*;have i:w.heap.size<W.heap.size:=(cC.1 b).1;have j:W.cell? ⟨w.heap.size,0,ζ⟩=γ (.string ⟨#[]⟩):=by rw[hO W _ 0 #[.string ⟨#[]⟩] _ (0,0) b];rfl
   have u:W.frozen? ⟨w.heap.size,0,ζ⟩=η:=tO W _ 0 #[.string ⟨#[]⟩] _ b;refine yo (f:=45) (args:= #[.pointer (γ ⟨w.heap.size,0,ζ⟩)]) (by simp) (by simp[go_sem]) ?_;refine(U2 ⟨w.heap.size,0,ζ⟩ (.string ⟨#[]⟩) [] _ j u i).mono ?_;rintro e u' w'' ⟨rfl,rfl,o,rfl⟩;have C:(W.alloc o).cell? ⟨w.heap.size,0,ζ⟩=γ (.string ⟨#[]⟩):=(oB (gJ W o _ i)).trans j;have G:=Wf X o (.string RA);simp[xY,yp,results,Tx,go_sem,C];exact⟨rfl,hd.fr G,v,G.o6⟩
  |true=>
   obtain rfl:=eq_of_beq H;simp only[H,a6];clear H;have I:=λ(W:ψ)(h:dW D L W)(h2:a4 (cn W D) W)=>n rfl (D:=D) (L:=L) ⟨rst.toArray⟩ h h2 v (by rw[m6];exact hsr)
   clear n;have m:∀c,Fr (au l) l c->∀o,w.heap.size<(c.alloc o).heap.size/\(c.alloc o).heap[w.heap.size]?=γ (.cells #[.string ⟨#[]⟩] 9 (0,0))/\Fr (au w) w (c.alloc o):=λc g o=>by have B:w.heap.size<c.heap.size:=eN (cC.1 a).1 g.size;refine⟨by simp;omega,(gJ _ _ _ B).trans ((g.block _ (cC.1 a).1 (gi.2 (cC.1 a).1)).trans a),(dr fa g).trans (eZ (fJ c _ ζ) λk e=>by cases e)⟩
   clear a fa;have P:=hd.lt;have Q:∀c W o,Fr (au l) l c->Fr (cn (c.alloc o) D) (c.alloc o) W->w.heap.size<W.heap.size/\W.heap[w.heap.size]?=γ (.cells #[.string ⟨#[]⟩] 9 (0,0))/\Fr (cn w D) w W:=λc W o g f3=>by obtain⟨e1,e2,e3⟩:=m c g o;refine⟨eN e1 f3.size,(f3.block _ e1 λh=>h.elim (λh=>by omega) (λh=>by omega)).trans e2,e3.o6.trans (f3.mono λk _ h=>h.elim (λx=>.inl (cF e3.size x)) .inr)⟩
   have hcell:∀W:ψ,W.heap[w.heap.size]?=γ (.cells #[.string ⟨#[]⟩] 9 (0,0))->W.cell? ⟨w.heap.size,0,ζ⟩=γ (.string ⟨#[]⟩)/\W.frozen? ⟨w.heap.size,0,ζ⟩=η:=λW b=>⟨by rw[hO W _ 0 #[.string ⟨#[]⟩] _ (0,0) b];rfl,tO W _ 0 #[.string ⟨#[]⟩] _ b⟩
   cases hS:Sg wd L rst with
   |none=>
    simp only[hS]at I⊢;clear hS
    go_enter_defers Tf,Ts
    go_wp2_with (first|(go_at_call 46;refine hc.mono ?_;rintro e c ⟨rfl,g⟩;obtain⟨lv,S,U,A⟩:=d c g;obtain rfl:=PY A;clear A)|(refine(I _ (hd.fr (m _ ‹_› _).2.2) (ht.Zr (m _ ‹_› _).2.2.o6)).mono ?_;rintro e W h5;obtain⟨rfl,N⟩:=h5.rp))
    obtain⟨i,b,X⟩:=Q _ _ _ g N.1;have j:W.cell? ⟨w.heap.size,0,ζ⟩=γ (.string ⟨#[]⟩):=by rw[hO W _ 0 #[.string ⟨#[]⟩] _ (0,0) b];rfl
    have u:W.frozen? ⟨w.heap.size,0,ζ⟩=η:=tO W _ 0 #[.string ⟨#[]⟩] _ b;refine yo (f:=45) (args:= #[.pointer (γ ⟨w.heap.size,0,ζ⟩)]) (by simp) (by simp[go_sem]) ?_;refine(agX ⟨w.heap.size,0,ζ⟩ (.string ⟨#[]⟩) [] _ j u i).mono ?_;rintro e u' w'' ⟨rfl,rfl,o,rfl⟩;have C:(W.alloc o).cell? ⟨w.heap.size,0,ζ⟩=γ (.string ⟨#[]⟩):=(oB (gJ W o _ i)).trans j;have G:=aku X o (.string Pk);have dO:=(N.2.2.fr (eZ (fJ W o ζ) λk e=>by cases e)).box (y:=.string Pk) ((gJ W o _ i).trans b) (Kd P);simp[xY,yp,results,Tx,go_sem,C];exact⟨rfl,dO,v,G⟩
   |some x=>
    obtain⟨T,t⟩:=x;simp only[hS]at I⊢;clear hS
    go_enter_defers Tf,Ts
    go_wp2_with (first|(go_at_call 46;refine hc.mono ?_;rintro e c ⟨rfl,g⟩;obtain⟨lv,S,U,A⟩:=d c g;obtain rfl:=PY A;clear A)|(refine(I _ (hd.fr (m _ ‹_› _).2.2) (ht.Zr (m _ ‹_› _).2.2.o6)).mono ?_;rintro e W h5;obtain⟨rfl,N⟩:=h5.qj;clear h5;obtain⟨i,b,X⟩:=Q _ _ _ ‹_› N.1;obtain⟨j,u⟩:=hcell W b))
    refine yo (f:=45) (args:= #[.pointer (γ ⟨w.heap.size,0,ζ⟩)]) (by simp) (by simp[go_sem]) ?_;refine(agW ⟨w.heap.size,0,ζ⟩ _).mono ?_;rintro e u' w'' ⟨rfl,rfl,rfl⟩;have G:=akw X (.string ⟨t.toArray⟩);have dO:=N.2.2.1.box (y:=.string ⟨t.toArray⟩) b (Kd P);simp[xY,yp,results,Tx,go_sem,j];exact⟨rfl,dO,N.2.2.2,G⟩
def eC(b:O)(l:E υ)(w:ψ):Prop:=Lib.IsBuilderF 37 5 b b (Lib.byteCells l) w
def eC.lt{b:O}{l:E υ}{w:ψ}(h:eC b l w):b<w.heap.size:=h.elim (λh=>h.lt) λh=>h.lt
def eC.new(w:ψ):eC w.heap.size [] (w.alloc (.cells #[.pointer ζ,.slice ζ 0 0] 37)):=Lib.IsBuilderF.of (Lib.fresh_isBuilder _ _ w)
def UK{p:τ}{l:E τ}{w w':ψ}(h:Lib.BuilderAtF 37 5 i i p l w)(m:∀(k:O)(c:aX τ)(a:O×O),(w.heap[k]?=γ (.cells c 37 a)\/w.heap[k]?=γ (.cells c 5 a))->w'.heap[k]?=w.heap[k]?):Lib.BuilderAtF 37 5 i i p l w':=by
 obtain⟨q,v,n,⟨r,d⟩,e⟩:=h;refine⟨q,v,(m _ _ _ (.inl n)).trans n,⟨r,?_⟩,e⟩;rcases d with d|⟨g,f,j,a,s,t,o,u⟩
 ·exact .inl d
 ·exact .inr ⟨g,f,j,a,s,t,(m _ _ _ (.inr o)).trans o,u⟩
def eC.kept{w w':ψ}(h:eC i l w)(a:∀(k:O)(c:aX τ)(d:O×O),(w.heap[k]?=γ (.cells c 37 d)\/w.heap[k]?=γ (.cells c 5 d))->w'.heap[k]?=w.heap[k]?):eC i l w':=
 h.elim (λh=>.inl (UK h a)) λh=>.inr (UK h a)
def ko(b:O)(w w':ψ):Prop:=Below b w w'/\Lib.OthersKept 5 (γ b) w w'
def agU(s:ρ)(h:eC i l X)(c:l.length+s.size<=140737488355328):aM θ 16 #[.pointer (γ ⟨i,0,ζ⟩),.string s] X λe w'=>e=.returned (.tuple #[.int .i64 s.size,.nilIface])/\eC i (l++s.data.toList) w'/\ko i X w':=by refine(Any.Builder_WriteString_k {C_ with} Cu i i _ s X h (by rw[Lib.byteCells_length];exact c) (Kb h.lt)).mono ?_;rintro e w' ⟨rfl,a,d,f⟩;refine⟨rfl,?_,d,f⟩;rw[Lib.strCells_eq,<-Lib.byteCells_append]at a;exact .inr a
def y5(x:E υ)(h:eC i l X)(a:l.length+x.length<=100000000):aM θ 16 #[.pointer (γ ⟨i,0,ζ⟩),.string ⟨x.toArray⟩] X λe w'=>∃v,e=.returned v/\eC i (l++x) w'/\ko i X w':=
 (agU ⟨x.toArray⟩ h (by rw[m6];exact cF a (by decide))).mono λ_ _ h=>⟨_,h.1,h.2⟩
def L4{b:O}{l:E υ}{w:ψ}(h:eC b l w):aM θ 19 #[.pointer (γ ⟨b,0,ζ⟩)] w λe w'=>e=.returned (.string ⟨l.toArray⟩)/\ko b w w':=by refine(Any.Builder_String_any_k {C_ with} Cu b b l w h (Kb h.lt)).mono ?_;rintro e w' ⟨rfl,_,a,c⟩;exact⟨rfl,a,c⟩
def ko.ahY{b D:O}{w w':ψ}(h:ko b w w')(d:D<b)(f:¬ud w b)(g:dW D L w):dW D L w':=by obtain⟨p,n,c,i,j⟩:=g;refine⟨p,n,c,(h.1.block D d).trans i,j.kept h.1.size λk _ ⟨l,o,a⟩=>?_⟩;rw[a];exact h.2 k _ a (λe=>f (by cases e;exact⟨_,_,a⟩)) λc m e=>by simp only[rT]at e;exact aR e.2.1 (by decide)
def eC.ne(h:eC i l X):¬ud X i:=λ⟨c,e,d⟩=>by
 rcases h with⟨_,v,a,_⟩|⟨_,v,a,_⟩
 ·rw[d]at a
  simp only[aC,rT]at a;exact aR a.2.1 (by decide)
 ·rw[d]at a
  simp only[aC,rT]at a;exact aR a.2.1 (by decide)
def eC.fr{b D:O}{w w':ψ}(h:eC b l w)(d:∃c i,w.heap[D]?=γ (.cells c 34 i))(f:Fr (cn w D) w w'):eC b l w':=by
 refine h.kept λk c i a=>f.block k ?_ λe=>?_
 ·rcases a with a|a<;>exact(cC.1 a).1
 ·have g:k<w.heap.size:=by rcases a with a|a<;>exact(cC.1 a).1
  rcases e with e|rfl
  ·exact aR e (gi.2 g)
  ·obtain⟨m,j,d⟩:=d
   rcases a with a|a
   ·rw[d]at a
    simp only[aC,rT]at a;exact aR a.2.1 (by decide)
   ·rw[d]at a
    simp only[aC,rT]at a;exact aR a.2.1 (by decide)
def nb(a:mN)(x:E Wh×E υ)(line:E υ):E Wh×E υ:=((jZ a x.1 line).1,x.2++((jZ a x.1 line).2++[10]))
def dM(a:mN)(b:E (E υ)):E Wh×E υ:=b.foldl (nb a) ([],[])
def dq(s:E υ):E (E υ):=(cD 10 s).dropLast
def mW(x:E Wh×E υ):E υ:=x.2++([119,104,101,101,108,115,32]++(bg x.1.length++[10]))
def GQ(a:mN)(b:E (E υ))(l:E υ):dM a (b++[l])=nb a (dM a b) l:=by unfold dM;rw[Bl];rfl
def ab4{w w':ψ}(h:a4 (au w) w)(f:Fr (au w) w w')(a:w.heap.size<=i):a4 (cn w' i) w':=
 (h.fr f).mono λ_ _ b=>b.elim (λx=>cF f.size x) (λe=>e▸a)
def ko.fr{a w w':ψ}(h:ko i w w')(c:a.heap.size<=i)(f:Fr (au a) a w):Fr (au a) a w':=
 f.trans ⟨h.1.os,h.1.tape,h.1.output,h.1.size,λk _ d=>h.1.block k (eN (gi.1 d) c)⟩
def y7(c:υ):∀l:E υ,(cD c l).length<=l.length+1
 |[]=>by simp[cD]
 |b::l=>by
  have a:=y7 c l;unfold cD;rw[bZ];split
  ·rw[bZ];omega
  ·split
   ·rename_i x d e
    rw[e,bZ]at a;rw[bZ];omega
   ·simp
def pc(ws:E (E υ)):Obj:=.cells ((ws.map λl=>(⟨l.toArray⟩:ρ)).map b9).toArray 9
def aa8(h:X.heap[i]?=γ (pc u))(j:O)(a:j<u.length):X.cell? ⟨i,j,ζ⟩=γ (.string ⟨u[j].toArray⟩):=by unfold oA;simp only;rw[h];simp[pc,a]
def aa9{w a:ψ}(h:a=w.alloc (.cells ((u.map λl=>(⟨l.toArray⟩:ρ)).map b9).toArray 9)):Fr (au w) w a/\a.heap[w.heap.size]?=γ (pc u):=by subst h;exact⟨eZ (fJ w _ ζ) (λk e=>by cases e),oz _ _⟩
def atq(ws:E (E υ))(c:aX τ)(a:O×O):pc ws≠ .cells c 5 a:=λe=>by simp only[pc,rT]at e;exact aR e.2.1 (by decide)
def v_(a b:E υ):((⟨a.toArray⟩:ρ)++⟨b.toArray⟩)=⟨(a++b).toArray⟩:=by apply ρ.ext;simp[ByteArray.data_append]
def agO{A:mN}(s:ρ)(ht:a4 (au X) X)(hs:s.size<=900)(M:∀l∈dq s.data.toList,BS A l)(g:∀k,(dM A ((dq s.data.toList).take k)).2.length<=90000000)(hL:∀k,(dM A ((dq s.data.toList).take k)).1.length<=100000):aM θ 7 #[.string s] X (gm X (.string ⟨(mW (dM A (dq s.data.toList))).toArray⟩)):=by
 have mixed:=mixed;have hs1:(s.size:Z)<=900:=by omega
 obtain⟨H,z⟩:∃H,(X.alloc (.cells #[.slice ζ 0 0] 34)).alloc (.cells #[.pointer ζ,.slice ζ 0 0] 37)=H:=⟨_,rfl⟩;have f0:Fr (au X) X H:=z▸(dr (eZ (fJ X _ ζ) λk e=>by cases e) (eZ (fJ _ _ ζ) λk e=>by cases e));have N:dW X.heap.size [] H:=by refine⟨ζ,0,0,?_,bj.nil _⟩;rw[<-z,gJ _ _ _ (by simp)];exact oz _ _
 have hb0:eC (X.heap.size+1) [] H:=by have:=eC.new (X.alloc (.cells #[.slice ζ 0 0] 34));rw[z]at this;simpa using this
 have hz0:X.heap.size+1<H.heap.size:=by rw[<-z];simp
 obtain⟨m,hm⟩:=AS (ht.fw f0);have B:=RI {uF with} uF.i9 s ⟨#[10]⟩ m H (by omega) hm (by decide);have hl:=va s ⟨#[10]⟩ (by decide);have hcu:=Ev s 10;rw[show Bh ⟨#[10]⟩ 0 (Bg s ⟨#[10]⟩) s=dD s ⟨#[10]⟩from rfl,<-hl,hcu,dv]at B;have hne:cD 10 s.data.toList≠ []:=Mg _ _;have hwl:(cD 10 s.data.toList).length<=901:=cF (y7 10 _) (by rw[show s.data.toList.length=s.size by rw[lm];rfl];omega);have P:∀x∈cD 10 s.data.toList,x.length<=1000:=λx hx=>by
  have:=Mh _ x hx;have e:s.data.toList.length=s.size:=by rw[lm];rfl
  omega
 unfold dq at*;generalize cD 10 s.data.toList=f at*;obtain⟨n,hn⟩:∃n,f.length=n+1:=⟨f.length-1,by have:=List.length_pos_iff.2 hne;omega⟩;rw[hn]at B;have hn1:(n:Z)<=900:=by omega
 clear hl hcu hm
 go_enter aev,ntmps7
 go_wp2_with (go_at_call 15;refine B.mono ?_;rintro e w1 ⟨rfl,hw1⟩;obtain⟨f1,c1⟩:=aa9 hw1;clear hw1)
 obtain⟨G,hG⟩:∃G,G=H.heap.size:=⟨_,rfl⟩;have hGz:X.heap.size+1<G:=by omega
 rw[<-hG]at c1⊢;have hd1:=N.fr f1;have hb1:=hb0.fr (D:=X.heap.size) (by obtain⟨p,n,c,h,_⟩:=N;exact⟨_,_,h⟩) f1.o6;have Q:=dr f0 f1;clear B N hb0 f0 f1 hz0 z hG
 go_loopw [21] (λi wr=>∃(k:O)(a:E Wh×E υ),k<=n/\i=.int .i64 k/\a=dM A (f.dropLast.take k)/\dW X.heap.size a.1 wr/\bK a.1/\eC (X.heap.size+1) a.2 wr/\Fr (au X) X wr/\wr.heap[G]?=γ (pc f)) (λi _=>n-(intOf i).toNat)
 case atStart=>exact⟨0,([],[]),ej _,rfl,rfl,hd1,zJ,hb1,Q,c1⟩
 case round=>
  obtain⟨k,a,hk,rfl,hX,hd,hT,hb,fr,cr⟩:=hrel;by_cases hlt:k<n
  ·have hkw:k<f.length:=by omega
   have hkl:k<f.dropLast.length:=by rw[J6];omega
   have hc:=aa8 cr k hkw;have R:f.dropLast[k]=f[k]:=List.getElem_dropLast _;have C:dM A (f.dropLast.take (k+1))=nb A a f[k]:=by rw[yf hkl,GQ,<-hX,R]
   have b:=g (k+1);rw[C]at b;have ha:=af0 ⟨f[k].toArray⟩ hd (ab4 ht fr (aQ _)) hT (by rw[m6];exact P _ (ki hkw)) (M _ (by rw[<-R];exact ki hkl));have hlt2:(k:Z)<n:=by omega
   rw[show(ah f[k].toArray).data.toList=f[k]from rfl]at ha;unfold nb at C b;generalize jZ A a.1 f[k]=y at*;obtain⟨T,t⟩:=y;have hyl:t.length+1<=100000000:=by simp at b;omega
   generalize f[k]=l at*;clear M g hL hwl P R hX;have S:∀d,Fr (cn wr X.heap.size) wr d->eC (X.heap.size+1) a.2 d:=λd o=>hb.fr (by obtain⟨p,n,c,h,_⟩:=hd;exact⟨_,_,h⟩) o
   have next:∀d j,dW X.heap.size T d->bK T->Fr (cn wr X.heap.size) wr d->eC (X.heap.size+1) (a.2++(t++[10])) j->ko (X.heap.size+1) d j->∃(k':O)(X':E Wh×E υ),k'<=n/\jc .i64 ((k:Z)+1)=.int .i64 k'/\X'=dM A (f.dropLast.take k')/\dW X.heap.size X'.1 j/\bK X'.1/\eC (X.heap.size+1) X'.2 j/\Fr (au X) X j/\j.heap[G]?=γ (pc f):=λd j d2 t2 o b3 I=>by
    refine⟨k+1,(T,a.2++(t++[10])),by omega,by simp,C.symm,I.ahY (by omega) (S d o).ne d2,t2,b3,?_,?_⟩
    ·exact I.fr (by omega) (fr.trans (o.mono λk _ h=>h.elim (λx=>cF fr.size x) (λe=>Ka e.symm)))
    ·refine I.2 G _ ((o.block G (cC.1 cr).1 λh=>h.elim (λh=>aR h (gi.2 (cC.1 cr).1)) λh=>by omega).trans cr) (λe=>by simp only[aC]at e;omega) (atq f)
   have U:∀d,Fr (cn wr X.heap.size) wr d->aM θ 16 #[.pointer (γ ⟨X.heap.size+1,0,ζ⟩),.string ((⟨t.toArray⟩:ρ)++⟨#[10]⟩)] d λe W=>∃v,e=.returned v/\eC (X.heap.size+1) (a.2++(t++[10])) W/\ko (X.heap.size+1) d W:=λd o=>by rw[v_ t [10]];exact y5 (t++[10]) (S d o) (by rw[bN]at b;exact cF b (by decide))
   clear S C hd hb hT fr cr ht Q hGz b
   go_wp2_with (first|(go_at_call 17;refine ha.mono ?_;rintro e d ⟨rfl,d2,t2,o⟩)|(go_at_call 16;refine(U _ ‹_›).mono ?_;rintro e j ⟨v,rfl,b3,I⟩;obtain hinv:=next _ _ d2 t2 o b3 I))
   exact⟨hinv,by simp[intOf];omega⟩
  ·have hkn:k=n:=by omega
   subst hkn;rw[pA (by rw[J6];omega)]at hX;have b:=g k;have w:=hL k;rw[pA (by rw[J6];omega),<-hX]at b w;obtain⟨L,u⟩:=a;have b:u.length<=90000000:=b;have w:L.length<=100000:=w;obtain⟨p,n0,c,hq,hr⟩:=id hd;obtain⟨p',n',c',hv⟩:=hr.slice;have hnl:n0=L.length:=by obtain⟨ν,_,hv,_⟩:=hr;simp only[VR]at hv;obtain⟨_,_,e,_⟩:=hv;cases e;rfl
   subst hnl;have c0:wr.cell? ⟨X.heap.size,0,ζ⟩=γ (.slice p L.length c):=by rw[hO wr X.heap.size 0 #[.slice p L.length c] _ (0,0) hq];rfl
   have iP:=C7 L.length (by omega) (by omega);have hdb:((bE L.length).size:Z)<=20:=by rw[show(bE L.length).size=(bg L.length).length by unfold bE;rw[m6]];omega
   have hit:=UV L.length wr (ht.fw fr) (by omega) (by omega);have U:∀d,Fr (au wr) wr d->aM θ 16 #[.pointer (γ ⟨X.heap.size+1,0,ζ⟩),.string ((⟨#[119,104,101,101,108,115,32]⟩:ρ)++bE L.length++⟨#[10]⟩)] d λe W=>∃v,e=.returned v/\(eC (X.heap.size+1) (mW (L,u)) W/\Fr (au X) X W):=λd o=>by
    have hb2:=hb.fr (D:=X.heap.size) ⟨_,_,hq⟩ o.o6;have e1:(⟨#[119,104,101,101,108,115,32]⟩:ρ)++bE L.length++⟨#[10]⟩=⟨([119,104,101,101,108,115,32]++(bg L.length++[10])).toArray⟩:=by rw[show bE L.length=⟨(bg L.length).toArray⟩from rfl,show(⟨#[119,104,101,101,108,115,32]⟩:ρ)=⟨([119,104,101,101,108,115,32]:E υ).toArray⟩from rfl,show(⟨#[10]⟩:ρ)=⟨([10]:E υ).toArray⟩from rfl,v_,v_,jN]
    rw[e1];refine(y5 _ hb2 ?_).mono ?_
    ·simp only[bN,bZ,eY]
     omega
    ·rintro e W ⟨v,rfl,h1,h2⟩
     exact⟨v,rfl,h1,h2.fr (by omega) (dr fr o)⟩
   have hbs:∀j,eC (X.heap.size+1) (mW (L,u)) j->Fr (au X) X j->aM θ 19 #[.pointer (γ ⟨X.heap.size+1,0,ζ⟩)] j (gm X (.string ⟨(mW (L,u)).toArray⟩)):=λj h3 I=>by refine(L4 h3).mono ?_;rintro e W ⟨rfl,h⟩;exact⟨rfl,h.fr (by omega) I⟩
   have hfin:∀_:Unit,mW (dM A f.dropLast)=mW (L,u):=λ_=>by rw[<-hX]
   clear hd hb hT hX b cr hq hr hv M g hL hwl P ht iP Q c1 hn;generalize mW (L,u)=r at*;generalize bE L.length=q at*
   go_wp2_with (first|(go_at_call 18;refine hit.mono ?_;rintro e d ⟨rfl,o⟩)|(go_at_call 16;refine(U _ ‹_›).mono ?_;rintro e j ⟨v,rfl,b3,I⟩)|(go_at_call 19;refine(hbs _ ‹_› ‹_›).mono ?_;rintro e w4 ⟨rfl,f4⟩))
   rw[hfin ()]
   go_ret
   exact⟨rfl,f4⟩
def agA(s:ρ)(w:ψ)(hs:900<s.size):aM θ 7 #[.string s] w (gm w (.string ⟨#[116,111,111,32,108,111,110,103,10]⟩)):=by
 have mixed:=mixed;have a:900<(s.size:Z):=by omega
 go_enter aev,ntmps7
 go_wp2
 go_ret
 exact⟨rfl,Fr.refl _ _⟩
def am2:nj:=⟨λ|144=>293|143=>56|219=>110|217=>185|225=>186|224=>187|267=>188|266=>249|314=>250|n=>n,λ|9=>9|4=>4|3=>3|5=>5|46=>191|146=>247|51=>105|n=>n,λ|1=>0|n=>n⟩
def am1:Go.Proofs.Lays.n144 θ am2:=by repeat' (first|kernel_rfl|(intros;kernel_rfl)|decide|constructor)
def YH:nj:=⟨λ|105=>266|212=>294|99=>295|165=>212|166=>16|170=>267|169=>19|263=>312|264=>313|206=>289|240=>26|241=>260|276=>57|277=>290|n=>n,λ|9=>9|3=>3|4=>4|20=>20|0=>0|46=>191|109=>292|5=>5|72=>37|76=>42|51=>105|146=>247|53=>109|148=>326|70=>35|37=>22|75=>41|127=>62|164=>72|80=>45|n=>n,λ|n=>n⟩
def anj:Go.Proofs.Lays.n105 θ YH:=by repeat' (first|kernel_rfl|(intros;kernel_rfl)|decide|constructor)
def ajx:Builder.Extra θ YH:=by repeat' (first|kernel_rfl|(intros;kernel_rfl)|decide|constructor)
def ang:nj:=⟨λ|170=>267|n=>n,λ|70=>35|3=>3|0=>0|72=>37|37=>22|5=>5|n=>n,λ|n=>n⟩
def anf:Go.Proofs.Lays.n170 θ ang:=by repeat' (first|kernel_rfl|(intros;kernel_rfl)|decide|constructor)
def ane:nj:=⟨λ|137=>227|217=>185|266=>249|n=>n,λ|9=>9|5=>5|3=>3|n=>n,λ|n=>n⟩
def anb:Go.Proofs.Lays.n137 θ ane:=by repeat' (first|kernel_rfl|(intros;kernel_rfl)|decide|constructor)
abbrev II:τ:=.iface 220 (.agg #[])
abbrev si:jM:=.panicked [{v:=II,recovered:=η}]
def uO(w:ψ):aM θ 225 #[.bool ε] w λe w'=>e=.returned (.tuple #[])/\w'=w:=by
 have mixed:=mixed
 go_enter func225,ntmps225
 go_wp2
 go_end0
 exact⟨rfl,rfl⟩
def qb(w:ψ):aM θ 225 #[.bool η] w λe w'=>e=si/\w'=w:=by
 have mixed:=mixed
 go_enter func225,ntmps225
 go_wp2
 exact⟨rfl,rfl,rfl⟩
def al':∀{l:E υ},¬l.length=1->hU l=η
 |[],_=>rfl
 |[_],h=>aR rfl h
 |_::_::_,_=>rfl
def aur:∀k:O,k<256->κ (0<=adJ [117,100,110,101,115,119,116] (ns k))=kb (ns k):=by decide+kernel
def aus(b:υ):κ (0<=adJ [117,100,110,101,115,119,116] b)=kb b:=by
 have:=aur b.toNat b.toNat_lt
 rwa [aeB]at this
def agv(l:E υ)(w:ψ)(h:(l.length:Z)<=1000000):aM θ 265 #[.string ⟨l.toArray⟩] w λe w'=>e=.returned (.bool (hU l))/\w'=w:=by
 have mixed:=mixed;by_cases a:l.length=1
 ·match l,a with
  |[b],_=>
   have c:=Any.strings_Contains_one am1 ⟨#[117,100,110,101,115,119,116]⟩ b w;rw[show(ah #[117,100,110,101,115,119,116]).data.toList=[117,100,110,101,115,119,116]from rfl,aus]at c;have d:(ah [b].toArray).size=1:=rfl
   go_enter func265,ntmps265
   go_wp2_with (go_at_call 293;refine c.mono ?_;rintro e i ⟨rfl,rfl⟩)
   go_ret
   exact⟨rfl,rfl⟩
 ·have f:=al' a
  have d:(ah l.toArray).size=l.length:=m6 l;have g:¬((l.length:Z)=1):=by omega
  rw[f]
  go_enter func265,ntmps265
  go_wp2
  go_ret
  exact⟨rfl,rfl⟩
def arN(l:E υ)(k:O):Lib.repeatL l k=rep k l:=by
 induction k with
 |zero=>rfl
 |succ k a=>rw[Lib.repeatL,a];unfold rep;rw[List.replicate_succ,Bj]
def agN(l:E υ)(k:O)(w:ψ)(a:k<=1000)(b:l.length<=1000000):aM θ 266 #[.string ⟨l.toArray⟩,ι k] w (gm w (.string ⟨(rep k l).toArray⟩)):=by refine(Any.strings_Repeat anj ajx ⟨l.toArray⟩ k w (by omega) (by rw[m6];exact cF (qu b a) (by decide))).mono ?_;rintro e d ⟨rfl,c⟩;rw[show(ah l.toArray).data.toList=l from rfl,arN];exact⟨rfl,(Below.fr c).mono λ_ _ h=>h.elim⟩
def Gu(h:eC i l X):aM θ 267 #[.pointer (γ ⟨i,0,ζ⟩)] X λe w'=>e=.returned (ι l.length)/\w'=X:=by refine(Any.Builder_Len_f anf i i _ X h).mono ?_;rintro e w' ⟨rfl,rfl⟩;rw[Lib.byteCells_length];exact⟨rfl,rfl⟩
def iM(R G:O)(ws:E (E υ))(k:O)(w:ψ):Prop:=w.heap[R]?=γ (.cells #[.slice (γ ⟨G,0,ζ⟩) ws.length ws.length,ι k] 223 (0,0))/\w.heap[G]?=γ (pc ws)
def iM.ne{R G k:O}(h:iM R G u k X):R≠G:=λe=>by have a:=h.1;rw[e,h.2]at a;simp only[pc,aC,rT]at a;exact aR a.2.1 (by decide)
def iM.fr{R G k:O}{w w':ψ}(h:iM R G u k w)(f:Fr (au w) w w'):iM R G u k w':=by have a:=(cC.1 h.1).1;have b:=(cC.1 h.2).1;exact⟨(f.block R a (gi.2 a)).trans h.1,(f.block G b (gi.2 b)).trans h.2⟩
def iM.Gq{R G k B:O}{w w':ψ}(h:iM R G u k w)(a:R<B)(b:G<B)(f:ko B w w'):iM R G u k w':=
 ⟨(f.1.block R a).trans h.1,(f.1.block G b).trans h.2⟩
def iM.set{R G k:O}(h:iM R G u k X)(j:O):iM R G u j (X.setCell ⟨R,1,ζ⟩ (ι j)):=by have a:=h.ne;refine⟨by simp[mL,Ba,h.1],?_⟩;rw[kM _ _ _ _ (show G≠R from a.symm)];exact h.2
def iM.cells{R G k:O}(h:iM R G u k X):X.cell? ⟨R,0,ζ⟩=γ (.slice (γ ⟨G,0,ζ⟩) u.length u.length)/\X.cell? ⟨R,1,ζ⟩=γ (ι k)/\X.frozen? ⟨R,1,ζ⟩=η:=by
 refine⟨?_,?_,?_⟩
 ·rw[hO X R 0 _ _ (0,0) h.1];rfl
 ·rw[hO X R 1 _ _ (0,0) h.1];rfl
 ·exact tO X R 1 _ _ h.1
def eC.Qc{b R:O}{w w':ψ}(h:eC b l w)(d:∃c i,w.heap[R]?=γ (.cells c 223 i))(f:Fr (cn w R) w w'):eC b l w':=by
 refine h.kept λk c i a=>f.block k ?_ λe=>?_
 ·rcases a with a|a<;>exact(cC.1 a).1
 ·have g:k<w.heap.size:=by rcases a with a|a<;>exact(cC.1 a).1
  rcases e with e|rfl
  ·exact aR e (gi.2 g)
  ·obtain⟨m,j,d⟩:=d
   rcases a with a|a
   ·rw[d]at a
    simp only[aC,rT]at a;exact aR a.2.1 (by decide)
   ·rw[d]at a
    simp only[aC,rT]at a;exact aR a.2.1 (by decide)
def eC.w_{w w':ψ}(h:eC i l w)(f:Fr (au w) w w'):eC i l w':=h.kept λk c d a=>f.block k (by rcases a with a|a<;>exact(cC.1 a).1) (gi.2 (by rcases a with a|a<;>exact(cC.1 a).1))
def ug(R:O)(w:ψ):O:=match w.cell? ⟨R,1,ζ⟩with|some v=>(intOf v).toNat|none=>0
def pJ(R G:O)(ws:E (E υ))(x:χ (E υ×E (E υ)))(w:ψ)(e:jM)(w':ψ):Prop:=
 Fr (cn w R) w w'/\match x with
  |none=>e=si
  |some x=>e=.returned (.string ⟨x.1.toArray⟩)/\iM R G ws (ws.length-x.2.length) w'
structure vY (R G B:O) (ws:E (E υ)) (br:ξ) (k:O) (w:ψ) (q:O) (out:E υ) (wr:ψ):Prop where
 le:k<=q/\q<=ws.length
 rd:iM R G ws q wr
 bu:eC B out wr
 eq:fl br (ws.drop k) []=fl br (ws.drop q) out
 em:out.isEmpty=Ψ q k
 sz:out.length<=500
 fr:Fr (cn w R) w wr
def iM.ug{R G k:O}{ws:E (E υ)}{w:ψ}(h:iM R G ws k w):ug R w=k:=by unfold Go.Proofs.YtdadmpgfcfkidaaGreatDoor.ug;rw[h.cells.2.1];simp[intOf]
def ko.zr{B R:O}{a w w':ψ}(h:ko B w w')(b:a.heap.size<=B)(f:Fr (cn a R) a w):Fr (cn a R) a w':=
 f.trans ⟨h.1.os,h.1.tape,h.1.output,h.1.size,λk _ c=>h.1.block k (eN (gi.1 λe=>c (.inl e)) b)⟩
def vY.next{R G B:O}{k a q':O}{w wr W:ψ}{out out':E υ}(b:vY R G B u q k w a out wr)(c:a<q')(d:q'<=u.length)(rd:iM R G u q' W)(f:eC B out' W)(eq:fl q (u.drop a) out=fl q (u.drop q') out')(g:out'≠ [])(h:out'.length<=500)(i:Fr (cn w R) w W):(∃(a:O)(out:E υ),vY R G B u q k w a out W)/\u.length-Go.Proofs.YtdadmpgfcfkidaaGreatDoor.ug R W<u.length-Go.Proofs.YtdadmpgfcfkidaaGreatDoor.ug R wr:=by
 refine⟨⟨q',out',⟨cF b.le.1 (Kb c),d⟩,rd,f,b.eq.trans eq,?_,h,i⟩,?_⟩
 ·have:=b.le.1
  rw[show Ψ q' k=η from by cases e:Ψ q' k with|false=>rfl|true=>have:=cA e;omega];cases out' with
  |nil=>exact aR rfl g
  |cons=>rfl
 ·rw[rd.ug,b.rd.ug]
  omega
def vY.step{R G B:O}{k a:O}{w wr W:ψ}(c:vY R G B u q k w a l wr)(d:W=(wr.setCell ⟨R,1,ζ⟩ (ι ((a:Z)+1))).drew.drew):iM R G u (a+1) W/\eC B l W/\Fr (cn w R) w W:=by
 have f:(a:Z)+1=((a+1:O):Z):=by omega
 rw[f]at d;have i:Fr (cn wr R) wr (wr.setCell ⟨R,1,ζ⟩ (ι ((a+1:O):Z))):=⟨rfl,rfl,rfl,by simp[mL],λk _ j=>kM _ _ _ _ (λe=>j (.inr e))⟩;have m:=c.rd.set (a+1);have n:=c.bu.Qc ⟨_,_,c.rd.1⟩ i;have b:Fr (cn w R) wr (wr.setCell ⟨R,1,ζ⟩ (ι ((a+1:O):Z))):=i.mono λ_ _ h=>vy h (λh=>lr (cF c.fr.size h)) Kg
 have g:Fr (cn w R) wr W:=d▸⟨b.os,b.tape,b.output,b.size,b.block⟩;exact⟨d▸m,d▸n,c.fr.trans g⟩
def agT{R G:O}(P:∀l∈u,l.length<=1000)(hn:u.length<=1000):∀(m:O)(br:ξ)(k:O)(w:ψ),u.length-k<m->k<=u.length->iM R G u k w->aM θ 226 #[.pointer (γ ⟨R,0,ζ⟩),.bool br] w (pJ R G u (fl br (u.drop k) []) w):=by
 intro m;induction m with
 |zero=>intro br k w h;omega
 |succ m D=>
  intro br k w hm hk z;have mixed:=mixed;have hRlt:=(cC.1 z.1).1;have hGlt:=(cC.1 z.2).1;obtain⟨c0,c1,z1⟩:=z.cells;obtain⟨B,H⟩:∃B,B=w.heap.size:=⟨_,rfl⟩;have hI:vY R G B u br k w k [] (w.alloc (.cells #[.pointer ζ,.slice ζ 0 0] 37)):=by
   have f:=eZ (fJ w (.cells #[.pointer ζ,.slice ζ 0 0] 37) ζ) (M:=au w) λk e=>by cases e
   exact⟨⟨aQ _,hk⟩,z.fr f,H▸eC.new w,rfl,by simp,ej _,f.o6⟩
  have c1a:(w.alloc (.cells #[.pointer ζ,.slice ζ 0 0] 37)).cell? ⟨R,1,ζ⟩=γ (ι k):=hI.rd.cells.2.1
  go_enter func226,ntmps226
  go_wp2
  go_loopw [] (λwr=>∃(q:O)(out:E υ),vY R G B u br k w q out wr) (λwr=>u.length-ug R wr)
  case atStart=>exact⟨k,[],hI⟩
  case round=>
   obtain⟨q,out,o⟩:=hrel;obtain⟨d0,d1,dz⟩:=o.rd.cells;by_cases hq:q<u.length
   ·have hqi:(q:Z)<u.length:=by omega
    have hni:(u.length:Z)<=1000:=by omega
    have dG:=aa8 o.rd.2 q hq;have dGc:wr.drew.cell? ⟨G,q,ζ⟩=γ (.string ⟨u[q].toArray⟩):=dG;have dGc2:wr.drew.drew.cell? ⟨G,q,ζ⟩=γ (.string ⟨u[q].toArray⟩):=dG;have e0:wr.drew.cell? ⟨R,0,ζ⟩=γ (.slice (γ ⟨G,0,ζ⟩) u.length u.length):=d0;have e1:wr.drew.cell? ⟨R,1,ζ⟩=γ (ι q):=d1;have g0:wr.drew.drew.cell? ⟨R,0,ζ⟩=γ (.slice (γ ⟨G,0,ζ⟩) u.length u.length):=d0;have g1:wr.drew.drew.cell? ⟨R,1,ζ⟩=γ (ι q):=d1;have gz:wr.drew.drew.frozen? ⟨R,1,ζ⟩=η:=dz;have s:u.drop q=u[q]::u.drop (q+1):=Fo hq;have hl1:u[q].length<=1000:=P _ (ki hq);generalize u[q]=l at*
    go_wp2_with fail
    go_region_held3 (λL=>L.cell? ⟨R,0,ζ⟩=γ (.slice (γ ⟨G,0,ζ⟩) u.length u.length)/\L.cell? ⟨R,1,ζ⟩=γ (ι q)/\L.cell? ⟨G,q,ζ⟩=γ (.string ⟨l.toArray⟩)) (exact⟨d0,d1,dG⟩) (fail)
    go_wp2_with fail
    go_region_held3 (λL=>L.cell? ⟨R,0,ζ⟩=γ (.slice (γ ⟨G,0,ζ⟩) u.length u.length)/\L.cell? ⟨R,1,ζ⟩=γ (ι q)/\L.cell? ⟨G,q,ζ⟩=γ (.string ⟨l.toArray⟩)) (exact⟨d0,d1,dG⟩) (fail)
    go_wp2_with fail
    obtain⟨W,hW⟩:∃W,W=(wr.setCell ⟨R,1,ζ⟩ (ι ((q:Z)+1))).drew.drew:=⟨_,rfl⟩;obtain⟨rW,bW,I⟩:=o.step hW;rw[<-hW];clear hW dG dGc dGc2 e0 e1 g0 g1 gz d0 d1 dz;have d:=agv l W (by omega);have g:∀j,fl br (u.drop q) out=ζ->Fr (cn w R) w j->pJ R G u (fl br (u.drop k) []) w si j:=λj h f=>by rw[o.eq,h];exact⟨f,rfl⟩
    have hsz:=o.sz;cases hs:hU l with
    |true=>
     rw[hs]at d;by_cases hle:out.length+l.length<=500
     ·have Q:(out.length:Z)+l.length<=500:=by omega
      have S:(out++l).length<=500:=by rw[bN];omega
      have i:∀j,eC B (out++l) j->ko B W j->_:=λj b2 t=>o.next (q':=q+1) (out':=out++l) (by omega) (by omega) (rW.Gq (by omega) (by omega) t) b2 (by rw[s,V8 hs,show Δ (out.length+l.length) 500=ε from by rw[bl];exact hle];rfl) (λe=>by have:=tN ce e;simp at this;rw[this.2]at hs;cases hs) S (t.zr (by omega) I)
      have A:=y5 l bW (by omega);refine d.mono ?_;rintro e T ⟨rfl,rfl⟩;clear d o D;subst H
      go_wp2_with (first|(go_at_call 16;refine A.mono ?_;rintro e w2 ⟨v,rfl,b2,t⟩)|(go_at_call 267;refine(Gu ‹_›).mono ?_;rintro e w3 ⟨rfl,rfl⟩)|(go_at_call 225;refine(uO _).mono ?_;rintro e w4 ⟨rfl,rfl⟩))
      exact i _ b2 t
     ·have Q:¬((out.length:Z)+l.length<=500):=by omega
      have i:∀j,ko B W j->_:=λj t=>g j (by rw[s,V8 hs,show Δ (out.length+l.length) 500=η from by cases e:Δ (out.length+l.length) 500 with|false=>rfl|true=>rw[bl]at e;omega];rfl) (t.zr (by omega) I)
      have A:=y5 l bW (by omega);refine d.mono ?_;rintro e T ⟨rfl,rfl⟩;clear d o D g;subst H
      go_wp2_with (first|(go_at_call 16;refine A.mono ?_;rintro e w2 ⟨v,rfl,b2,t⟩)|(go_at_call 267;refine(Gu ‹_›).mono ?_;rintro e w3 ⟨rfl,rfl⟩))
      rw[gF];refine(qb _).mono ?_;rintro e w4 ⟨rfl,rfl⟩;exact⟨rfl,i _ t⟩
    |false=>
     rw[hs]at d;by_cases h93:l=[93]
     ·subst h93
      have C:(q=k)\/k<q:=by have:=o.le.1;omega
      have U:=o.em;obtain⟨m0,m1,mz⟩:=rW.cells;cases br with
      |false=>
       have i:pJ R G u (fl η (u.drop k) []) w si W:=g W (by rw[s,M7,l5];rfl) I;refine d.mono ?_;rintro e T ⟨rfl,rfl⟩;clear d o D g U C;subst H
       go_wp2_with fail
       refine(qb _).mono ?_;rintro e w4 ⟨rfl,rfl⟩;exact⟨rfl,i⟩
      |true=>
       rcases C with C|C
       ·have hq3:¬((k:Z)<q):=by omega
        have i:pJ R G u (fl ε (u.drop k) []) w si W:=g W (by rw[s,M7,U,C,show Ψ k k=ε from mG k,Bb,g7];rfl) I;refine d.mono ?_;rintro e T ⟨rfl,rfl⟩;clear d o D g U C;subst H
        go_wp2_with fail
        rw[gF];refine(qb _).mono ?_;rintro e w4 ⟨rfl,rfl⟩;exact⟨rfl,i⟩
       ·have hq3:(k:Z)<q:=by omega
        have i:∀j,ko B W j->pJ R G u (fl ε (u.drop k) []) w (.returned (.string ⟨out.toArray⟩)) j:=λj t=>by rw[o.eq,s,M7,U,show Ψ q k=η from by cases e:Ψ q k with|false=>rfl|true=>have:=cA e;omega];refine⟨t.zr (by omega) I,rfl,?_⟩;have:=rW.Gq (by omega) (by omega) t;rw[py,show u.length-(u.length-(q+1))=q+1 by omega];exact this
        have X:=L4 bW;refine d.mono ?_;rintro e T ⟨rfl,rfl⟩;clear d o D g U C;subst H
        go_wp2_with (first|(go_at_call 225;refine(uO _).mono ?_;rintro e w4 ⟨rfl,rfl⟩)|(go_at_call 19;refine X.mono ?_;rintro e w5 ⟨rfl,f5⟩))
        go_ret
        exact i _ f5
     ·have h93b:(l==[93])=η:=cq.2 h93
      by_cases hlp:bU l=0
      ·have i:pJ R G u (fl br (u.drop k) []) w si W:=g W (by rw[s,akj hs h93 hlp]) I
       by_cases h2:l.length=2
       ·match l,h2 with
        |[a,b],_=>
         have hz:(ah [a,b].toArray).size=2:=rfl;have hz3:(ah #[a,b]).size=2:=rfl;have hx0:∀h,(ah #[a,b])[0]'h=a:=λ_=>rfl
         have hx1:∀h,(ah #[a,b])[1]'h=b:=λ_=>rfl
         clear P hn hm hk s hqi hni z c0 c1 z1 c1a;rcases anD hlp with ha|⟨rfl,hb|⟨hb,hb2⟩⟩
         ·have ha2:¬((a.toNat:Z)=114):=by omega
          refine d.mono ?_;rintro e T ⟨rfl,rfl⟩;clear d o D g;subst H
          go_wp2_with fail
          refine(qb _).mono ?_;rintro e w4 ⟨rfl,rfl⟩;exact⟨rfl,i⟩
         ·have hb3:¬((49:Z)<=b.toNat):=by omega
          refine d.mono ?_;rintro e T ⟨rfl,rfl⟩;clear d o D g;subst H
          go_wp2_with fail
          refine(qb _).mono ?_;rintro e w4 ⟨rfl,rfl⟩;exact⟨rfl,i⟩
         ·have hb3:(49:Z)<=b.toNat:=by omega
          have hb4:¬((b.toNat:Z)<=57):=by omega
          refine d.mono ?_;rintro e T ⟨rfl,rfl⟩;clear d o D g;subst H
          go_wp2_with fail
          rw[gF];refine(qb _).mono ?_;rintro e w4 ⟨rfl,rfl⟩;exact⟨rfl,i⟩
       ·have hz:(ah l.toArray).size=l.length:=m6 l
        have hz2:¬((l.length:Z)=2):=by omega
        refine d.mono ?_;rintro e T ⟨rfl,rfl⟩;clear d o D g;subst H
        go_wp2_with fail
        refine(qb _).mono ?_;rintro e w4 ⟨rfl,rfl⟩;exact⟨rfl,i⟩
      ·obtain⟨b,rfl,hb1,hb2,hlv⟩:=anC hlp
       have hz3:(ah #[114,b]).size=2:=rfl;have hx0:∀h,(ah #[114,b])[0]'h=114:=λ_=>rfl
       have hx1:∀h,(ah #[114,b])[1]'h=b:=λ_=>rfl
       have hb3:(49:Z)<=b.toNat:=by omega
       have hb4:(b.toNat:Z)<=57:=by omega
       have hkq:=o.le.1;have hin:=D ε (q+1) W (by omega) (by omega) rW;have n:=akh (br:=br) (r:=u.drop (q+1)) (out:=out) hs h93 hlp;cases p:fl ε (u.drop (q+1)) []with
       |none=>
        rw[p]at hin n;have i:∀j,Fr (cn W R) W j->pJ R G u (fl br (u.drop k) []) w si j:=λj f=>g j (by rw[s,n]) (I.trans (f.mono λ_ _ h=>vy h (λh=>lr (cF I.size h)) Kg))
        refine d.mono ?_;rintro e T ⟨rfl,rfl⟩;clear d o D g n p;subst H
        go_wp2_with (first|(go_at_call 225;refine(uO _).mono ?_;rintro e w4 ⟨rfl,rfl⟩)|(go_at_call 226;refine hin.mono ?_;rintro e w5 ⟨f5,he5⟩;obtain rfl:=he5))
        exact⟨rfl,i _ f5⟩
       |some x=>
        obtain⟨c,r'⟩:=x;have hbz:=V9 p;have hrl:=(V7 p).1;have hne:=((V7 p).2 rfl).1;rw[py]at hrl;rw[p]at hin n;simp only at n;have hdq:r'=u.drop (u.length-r'.length):=azm.1 ((akk p).trans (List.drop_suffix _ _));have hk9:=O2 [114,b];rw[hlv]at n hk9;have hu:pu.wrap ((b.toNat:Z) -48)=((b.toNat-48:O):Z):=by rw[Fh];omega
        have hu2:aY.wrap (((b.toNat-48:O):Z))=((b.toNat-48:O):Z):=bz;have hbz2:(c.length:Z)<=500:=by omega
        have X:(ah c.toArray).size=c.length:=m6 c;have hrl2:=Aq (b.toNat-48) c;have hkb:(b.toNat-48)*c.length<=9*500:=qu (by omega) hbz;have hrn:rep (b.toNat-48) c≠ []:=aaN (by omega) hne;generalize b.toNat-48=N at*;have hrp:=λj (f:Fr (cn W R) W j)=>agN c N j (by omega) (by omega)
        by_cases hle:out.length+(rep N c).length<=500
        ·have Q:(out.length:Z)+(rep N c).length<=500:=by omega
         have S:(out++rep N c).length<=500:=by rw[bN];omega
         have i:∀j W3 W4,Fr (cn W R) W j->iM R G u (u.length-r'.length) j->Fr (au j) j W3->eC B (out++rep N c) W4->ko B W3 W4->_:=λj W3 W4 t r2 f3 b4 f4=>o.next (q':=u.length-r'.length) (out':=out++rep N c) (by omega) (by omega) ((r2.fr f3).Gq (by omega) (by omega) f4) b4 (by rw[s,n,show Δ (out.length+N*c.length) 500=ε from by rw[bl];omega,a6,<-hdq]) (λe=>hrn (adO.1 e).2) S (f4.zr (by omega) ((I.trans (t.mono λ_ _ h=>vy h (λh=>lr (cF I.size h)) Kg)).trans (f3.mono λ_ _ h=>lr (cF I.size (cF t.size h)))))
         have A:=λj W3 (t:Fr (cn W R) W j)(f3:Fr (au j) j W3)=>y5 (rep N c) ((bW.Qc ⟨_,_,rW.1⟩ t).w_ f3) (by omega)
         refine d.mono ?_;rintro e T ⟨rfl,rfl⟩;clear d o D g n p P hn hm hk s z c0 c1 z1 c1a hkq hb1 hb2 hlv hk9 hrl hrl2 hkb hrn hdq hne hbz;subst H
         go_wp2_with (first|(go_at_call 225;refine(uO _).mono ?_;rintro e w4 ⟨rfl,rfl⟩)|(go_at_call 226;refine hin.mono ?_;rintro e w5 ⟨f5,he5,r5⟩;obtain rfl:=he5)|(go_at_call 266;refine(hrp _ ‹_›).mono ?_;rintro e w6 ⟨rfl,f6⟩)|(go_at_call 16;refine(A _ _ ‹_› ‹_›).mono ?_;rintro e w7 ⟨v,rfl,b7,f7⟩)|(go_at_call 267;refine(Gu ‹_›).mono ?_;rintro e w8 ⟨rfl,rfl⟩))
         exact i _ _ _ f5 r5 f6 b7 f7
        ·have Q:¬((out.length:Z)+(rep N c).length<=500):=by omega
         have i:∀j W3 W4,Fr (cn W R) W j->Fr (au j) j W3->ko B W3 W4->pJ R G u (fl br (u.drop k) []) w si W4:=λj W3 W4 t f3 f4=>g W4 (by rw[s,n,show Δ (out.length+N*c.length) 500=η from by cases e:Δ (out.length+N*c.length) 500 with|false=>rfl|true=>rw[bl]at e;omega];rfl) (f4.zr (by omega) ((I.trans (t.mono λ_ _ h=>vy h (λh=>lr (cF I.size h)) Kg)).trans (f3.mono λ_ _ h=>lr (cF I.size (cF t.size h)))))
         have A:=λj W3 (t:Fr (cn W R) W j)(f3:Fr (au j) j W3)=>y5 (rep N c) ((bW.Qc ⟨_,_,rW.1⟩ t).w_ f3) (by omega)
         refine d.mono ?_;rintro e T ⟨rfl,rfl⟩;clear d o D g n p P hn hm hk s z c0 c1 z1 c1a hkq hb1 hb2 hlv hk9 hrl hrl2 hkb hrn hdq hne hbz;subst H
         go_wp2_with (first|(go_at_call 225;refine(uO _).mono ?_;rintro e w4 ⟨rfl,rfl⟩)|(go_at_call 226;refine hin.mono ?_;rintro e w5 ⟨f5,he5,r5⟩;obtain rfl:=he5)|(go_at_call 266;refine(hrp _ ‹_›).mono ?_;rintro e w6 ⟨rfl,f6⟩)|(go_at_call 16;refine(A _ _ ‹_› ‹_›).mono ?_;rintro e w7 ⟨v,rfl,b7,f7⟩)|(go_at_call 267;refine(Gu ‹_›).mono ?_;rintro e w8 ⟨rfl,rfl⟩))
         rw[gF];refine(qb _).mono ?_;rintro e w4 ⟨rfl,rfl⟩;exact⟨rfl,i _ _ _ f5 f6 f7⟩
   ·have hq2:q=u.length:=by have:=o.le.2;omega
    have hni:(u.length:Z)<=1000:=by omega
    have e0:wr.drew.cell? ⟨R,0,ζ⟩=γ (.slice (γ ⟨G,0,ζ⟩) u.length u.length):=d0;have e1:wr.drew.cell? ⟨R,1,ζ⟩=γ (ι u.length):=hq2▸d1;have d1':wr.cell? ⟨R,1,ζ⟩=γ (ι u.length):=hq2▸d1;have p:fl br (u.drop k) []=bif br then ζ else γ (out,[]):=by rw[o.eq,hq2,List.drop_length,aki]
    have hrd2:=o.rd;rw[hq2]at hrd2;have X:=L4 (w:=wr.drew) (b:=B) (l:=out) (o.bu.w_ (fs wr));have y:=o.fr;have i:∀j,ko B wr.drew j->br=η->pJ R G u (fl br (u.drop k) []) w (.returned (.string ⟨out.toArray⟩)) j:=λj t hbr=>by rw[p,hbr];have f0:Fr (cn w R) w wr.drew:=⟨y.os,y.tape,y.output,y.size,y.block⟩;have r0:iM R G u u.length wr.drew:=hrd2;refine⟨t.zr (by omega) f0,rfl,?_⟩;exact r0.Gq (by omega) (by omega) t
    have hnn:br=ε->pJ R G u (fl br (u.drop k) []) w si wr.drew:=λhbr=>by rw[p,hbr];exact⟨⟨y.os,y.tape,y.output,y.size,y.block⟩,rfl⟩
    clear o p hrd2 y D P hn hm hk z c0 c1 z1 c1a d1 dz hq hI;subst H;cases br with
    |true=>
     have hn2:=hnn rfl;clear hnn i X
     go_wp2_with fail
     go_region_held3 (λL=>L.cell? ⟨R,0,ζ⟩=γ (.slice (γ ⟨G,0,ζ⟩) u.length u.length)/\L.cell? ⟨R,1,ζ⟩=γ (ι u.length)) (exact⟨d0,d1'⟩) (fail)
     go_wp2_with fail
     refine(qb _).mono ?_;rintro e w4 ⟨rfl,rfl⟩;exact⟨rfl,hn2⟩
    |false=>
     have hn2:=λj h=>i j h rfl
     clear hnn i
     go_wp2_with fail
     go_region_held3 (λL=>L.cell? ⟨R,0,ζ⟩=γ (.slice (γ ⟨G,0,ζ⟩) u.length u.length)/\L.cell? ⟨R,1,ζ⟩=γ (ι u.length)) (exact⟨d0,d1'⟩) (fail)
     go_wp2_with (first|(go_at_call 225;refine(uO _).mono ?_;rintro e w4 ⟨rfl,rfl⟩)|(go_at_call 19;refine X.mono ?_;rintro e w5 ⟨rfl,f5⟩))
     go_ret
     exact hn2 _ f5
def aaO(tmps:aX τ)(w:ψ):(results f224 tmps).run θ w=.ok (.tuple #[]) w:=by simp[results]
def agY(p q:cM)(w:ψ):CallsD θ 224 #[.pointer (γ p),.pointer (γ q)] .returning w λe c w'=>e=.returned (.tuple #[])/\c=.returning/\w'=w:=by
 have mixed:=mixed;refine Ku func224 rfl λa d b=>?_
 apply wpS_seq;apply KF;simp[wpOpsS,go_sem,Kz,b,ntmps224,JT];apply KE
 go_wp2
 exact⟨rfl,.returning,by cases a;simp at b;subst b;rfl,.tuple #[],aaO _ _,rfl,rfl,rfl⟩
def avv(w:ψ):(Be II 20 220 ε).run θ w=.ok (.tuple #[.agg #[],.bool ε]) w:=nX (by kernel_rfl) w
def L8(a b:O)(x y:τ)(c:E PanicEntry)(w:ψ)(d:a<b)(i:w.cell? ⟨a,0,ζ⟩=γ x)(j:w.frozen? ⟨a,0,ζ⟩=η)(k:w.cell? ⟨b,0,ζ⟩=γ y)(l:w.frozen? ⟨b,0,ζ⟩=η)(f:b<w.heap.size):CallsD θ 224 #[.pointer (γ ⟨a,0,ζ⟩),.pointer (γ ⟨b,0,ζ⟩)] (.panicking ({v:=II,recovered:=η}::c)) w λe m w'=>e=.returned (.tuple #[])/\m=.panicking ({v:=II,recovered:=ε}::c)/\∃o,w'=((w.alloc o).setCell ⟨a,0,ζ⟩ (.string ⟨#[]⟩)).setCell ⟨b,0,ζ⟩ (.bool η):=by
 have mixed:=mixed;have g:a<w.heap.size:=by omega
 have n:∀o,(w.alloc o).cell? ⟨a,0,ζ⟩=γ x:=λo=>(oB (gJ w o _ g)).trans i
 have p:∀o,(w.alloc o).frozen? ⟨a,0,ζ⟩=η:=λo=>(FO (gJ w o _ g)).trans j
 have q:(⟨b,0,ζ⟩:cM).block≠ (⟨a,0,ζ⟩:cM).block:=Kd d;have r:∀o v,((w.alloc o).setCell ⟨a,0,ζ⟩ v).cell? ⟨b,0,ζ⟩=γ y:=λo v=>(oB (a:=⟨b,0,ζ⟩) (kM _ _ _ _ (Kd d))).trans ((oB (gJ w o _ f)).trans k)
 have s:∀o v,((w.alloc o).setCell ⟨a,0,ζ⟩ v).frozen? ⟨b,0,ζ⟩=η:=λo v=>(FO (a:=⟨b,0,ζ⟩) (kM _ _ _ _ (Kd d))).trans ((FO (gJ w o _ f)).trans l)
 have u:=avv;refine Ku func224 rfl λh z t=>?_
 apply wpS_seq;apply KF;simp[wpOpsS,go_sem,Kz,t,ntmps224,JT];apply KE
 go_wp2
 refine⟨rfl,_,rfl,.tuple #[],aaO _ _,rfl,rfl,_,rfl⟩
def jt(s:E υ):χ (E υ):=if s.length<=400 then(match fl η (cD 32 s) []with|some x=>γ x.1|none=>ζ)else ζ
def Q0(x:χ (E υ)):τ:=.tuple #[.string ⟨(x.getD []).toArray⟩,.bool x.isSome]
def auw:jt []=ζ:=by decide
structure ma (a b:O) (x y:τ) (w:ψ):Prop where
 h1:w.heap[a]?=γ (.cells #[x] 9 (0,0))
 h2:w.heap[b]?=γ (.cells #[y] 4 (0,0))
def ma.fr{a b:O}{x y:τ}{w w':ψ}(h:ma a b x y w)(f:∀k,k=a\/k=b->w'.heap[k]?=w.heap[k]?):ma a b x y w':=⟨(f a (.inl rfl)).trans h.h1,(f b (.inr rfl)).trans h.h2⟩
def ma.facts{a b:O}{x y:τ}(h:ma a b x y X):X.cell? ⟨a,0,ζ⟩=γ x/\X.frozen? ⟨a,0,ζ⟩=η/\X.cell? ⟨b,0,ζ⟩=γ y/\X.frozen? ⟨b,0,ζ⟩=η/\b<X.heap.size:=
 ⟨by rw[hO X a 0 #[x] _ (0,0) h.h1];rfl,tO X a 0 #[x] _ h.h1,by rw[hO X b 0 #[y] _ (0,0) h.h2];rfl,tO X b 0 #[y] _ h.h2,(cC.1 h.h2).1⟩
def ma.w_{a b:O}{x y:τ}{w w':ψ}(h:ma a b x y w)(f:Fr (au w) w w'):ma a b x y w':=
 ⟨(f.block a (cC.1 h.h1).1 (gi.2 (cC.1 h.h1).1)).trans h.h1,(f.block b (cC.1 h.h2).1 (gi.2 (cC.1 h.h2).1)).trans h.h2⟩
def ma.put{a b:O}{x y u v:τ}(h:ma a b x y X)(c:a<b):ma a b u v ((X.setCell ⟨a,0,ζ⟩ u).setCell ⟨b,0,ζ⟩ v):=by
 refine⟨?_,?_⟩
 ·rw[kM _ _ _ _ (show a≠b by omega)]
  simp[mL,Ba,h.h1]
 ·have:=(kM X ⟨a,0,ζ⟩ u b (show b≠a by omega)).trans h.h2
  generalize X.setCell ⟨a,0,ζ⟩ u=W at*;simp[mL,Ba,this]
def Wj{a b:O}{u v:τ}{w c:ψ}(f:Fr (au c) c w)(e:c.heap.size<=a)(g:c.heap.size<=b):Fr (au c) c ((w.setCell ⟨a,0,ζ⟩ u).setCell ⟨b,0,ζ⟩ v):=by refine f.trans ⟨rfl,rfl,rfl,by simp[mL],λk _ d=>?_⟩;have d:k<c.heap.size:=gi.1 d;rw[kM _ _ _ _ (show k≠b by omega),kM _ _ _ _ (show k≠a by omega)]
def LX{a b:O}{x y:τ}{w c:ψ}(h:ma a b x y w)(d:a<b)(f:Fr (au c) c w)(i:c.heap.size<=a)(o:Obj):(((w.alloc o).setCell ⟨a,0,ζ⟩ (.string ⟨#[]⟩)).setCell ⟨b,0,ζ⟩ (.bool η)).cell? ⟨a,0,ζ⟩=γ (.string ⟨#[]⟩)/\(((w.alloc o).setCell ⟨a,0,ζ⟩ (.string ⟨#[]⟩)).setCell ⟨b,0,ζ⟩ (.bool η)).cell? ⟨b,0,ζ⟩=γ (.bool η)/\Fr (au c) c (((w.alloc o).setCell ⟨a,0,ζ⟩ (.string ⟨#[]⟩)).setCell ⟨b,0,ζ⟩ (.bool η)):=by
 have g:=eZ (fJ w o ζ) (M:=au w) λk e=>by cases e
 have j:=(h.w_ g).put d (u:=.string ⟨#[]⟩) (v:=.bool η);obtain⟨l,_,m,_⟩:=j.facts;exact⟨l,m,Wj (dr f g) i (by omega)⟩
def agP(s:ρ)(ht:a4 (au X) X):aM θ 147 #[.string s] X (gm X (Q0 (jt s.data.toList))):=by
 have mixed:=mixed;have hmf:∀(fn:Fn)(first L:aX τ)(X:ψ),(R0 fn first L).run θ X=.ok (.func fn first L) X:=λ_ _ _ _=>rfl
 have hsl:s.data.toList.length=s.size:=by rw[lm];rfl
 obtain⟨i,t⟩:∃i,(X.alloc (.cells #[.string ⟨#[]⟩] 9)).alloc (.cells #[.bool η] 4)=i:=⟨_,rfl⟩;have N:Fr (au X) X i:=t▸(dr (eZ (fJ X _ ζ) λk e=>by cases e) (eZ (fJ _ _ ζ) λk e=>by cases e));have y:ma X.heap.size (X.heap.size+1) (.string ⟨#[]⟩) (.bool η) i:=by
  refine⟨?_,?_⟩
  ·rw[<-t,gJ _ _ _ (by simp)]
   exact oz _ _
  ·rw[<-t]
   have:=oz (X.alloc (.cells #[.string ⟨#[]⟩] 9)) (.cells #[.bool η] 4);simpa using this
 by_cases hz:s.size<=400
 ·have hz2:(s.size:Z)<=400:=by omega
  by_cases w:s.data.toList=[]
  ·have hem:s.toList.isEmpty=ε:=by rw[pq,w];rfl
   rw[w,auw];clear w
   go_enter_defers Te,Tr
   go_wp2_with fail
   refine(qb _).mono ?_;rintro e c ⟨rfl,rfl⟩;obtain⟨D,G,z,A,H⟩:=y.facts;refine yo (f:=224) (args:= #[.pointer (γ ⟨X.heap.size,0,ζ⟩),.pointer (γ ⟨X.heap.size+1,0,ζ⟩)]) (by simp) (by simp[go_sem]) ?_;refine(L8 _ _ _ _ [] _ (fA _) D G z A H).mono ?_;rintro e u' B ⟨rfl,rfl,o,rfl⟩;obtain⟨P,Q,R⟩:=LX y (fA _) N (aQ _) o;simp[xY,yp,results,Tw,go_sem,P,Q];exact⟨rfl,R⟩
  ·have hem:s.toList.isEmpty=η:=by
    rw[pq];cases h:s.data.toList with
    |nil=>exact aR h w
    |cons=>rfl
   obtain⟨mx,hm⟩:=AS (ht.fw N);have m:=RI {uF with} uF.i9 s ⟨#[32]⟩ mx i (by omega) hm (by decide);have hl:=va s ⟨#[32]⟩ (by decide);have S:=Ev s 32;rw[show Bh ⟨#[32]⟩ 0 (Bg s ⟨#[32]⟩) s=dD s ⟨#[32]⟩from rfl,<-hl,S,dv]at m;have hwl:(cD 32 s.data.toList).length<=401:=cF (y7 32 _) (by omega);have U:∀x∈cD 32 s.data.toList,x.length<=1000:=λx hx=>by have:=Mh _ x hx;omega
   have hq:jt s.data.toList=match fl η (cD 32 s.data.toList) []with|some x=>γ x.1|none=>ζ:=by unfold jt;rw[oW]
   rw[hq];generalize cD 32 s.data.toList=g at*;clear hl S hm hq hsl
   --the reader
   have n:∀c,c=i.alloc (pc g)->iM c.heap.size i.heap.size g 0 (c.alloc (.cells #[.slice (γ ⟨i.heap.size,0,ζ⟩) g.length g.length,ι 0] 223))/\Fr (au X) X (c.alloc (.cells #[.slice (γ ⟨i.heap.size,0,ζ⟩) g.length g.length,ι 0] 223))/\ma X.heap.size (X.heap.size+1) (.string ⟨#[]⟩) (.bool η) (c.alloc (.cells #[.slice (γ ⟨i.heap.size,0,ζ⟩) g.length g.length,ι 0] 223))/\X.heap.size+1<c.heap.size:=λc d=>by
    obtain⟨f1,c1⟩:=aa9 d;have fa:=eZ (fJ c (.cells #[.slice (γ ⟨i.heap.size,0,ζ⟩) g.length g.length,ι 0] 223) ζ) (M:=au c) λk e=>by cases e
    have W:=(cC.1 c1).1;have hb:=y.facts.2.2.2.2;exact⟨⟨oz _ _,(fa.block _ W (gi.2 W)).trans c1⟩,dr (dr N f1) fa,(y.w_ f1).w_ fa,eN hb f1.size⟩
   have l:∀c,c=i.alloc (pc g)->aM θ 226 #[.pointer (γ ⟨c.heap.size,0,ζ⟩),.bool η] (c.alloc (.cells #[.slice (γ ⟨i.heap.size,0,ζ⟩) g.length g.length,ι 0] 223)) (pJ c.heap.size i.heap.size g (fl η g []) (c.alloc (.cells #[.slice (γ ⟨i.heap.size,0,ζ⟩) g.length g.length,ι 0] 223))):=λc d=>agT U (by omega) (g.length+1) η 0 _ (by omega) (ej _) (n c d).1
   have j:∀c q,c=i.alloc (pc g)->Fr (cn (c.alloc (.cells #[.slice (γ ⟨i.heap.size,0,ζ⟩) g.length g.length,ι 0] 223)) c.heap.size) (c.alloc (.cells #[.slice (γ ⟨i.heap.size,0,ζ⟩) g.length g.length,ι 0] 223)) q->Fr (au X) X q/\ma X.heap.size (X.heap.size+1) (.string ⟨#[]⟩) (.bool η) q:=λc q d f2=>by obtain⟨_,k2,k3,k4⟩:=n c d;have hbz:=k3.facts.2.2.2.2;refine⟨k2.trans (f2.mono λk _ h=>vy h (λh=>cF k2.size h) λh=>by omega),k3.fr λk hk=>f2.block k (by omega) λh=>vy h (λh=>by omega) λh=>by omega⟩
   clear hwl U n N y ht;cases p:fl η g []with
   |none=>
    rw[p]at l;clear p
    go_enter_defers Te,Tr
    go_wp2_with fail
    refine(uO _).mono ?_;rintro e w4 ⟨rfl,rfl⟩
    go_wp2_with fail
    refine m.mono ?_;rintro e c ⟨rfl,d⟩;have hu:=l c d;have hn:=λq=>j c q d
    clear l j m d
    go_wp2_with fail
    refine hu.mono ?_;rintro e w5 ⟨f5,C⟩;obtain rfl:=C;obtain⟨fW,I⟩:=hn _ f5;obtain⟨D,G,z,A,H⟩:=I.facts;refine yo (f:=224) (args:= #[.pointer (γ ⟨X.heap.size,0,ζ⟩),.pointer (γ ⟨X.heap.size+1,0,ζ⟩)]) (by simp) (by simp[go_sem]) ?_;refine(L8 _ _ _ _ [] _ (fA _) D G z A H).mono ?_;rintro e u' B ⟨rfl,rfl,o,rfl⟩;obtain⟨P,Q,R⟩:=LX I (fA _) fW (aQ _) o;simp[xY,yp,results,Tw,go_sem,P,Q];exact⟨rfl,R⟩
   |some x=>
    obtain⟨T,r⟩:=x;rw[p]at l;clear p
    go_enter_defers Te,Tr
    go_wp2_with fail
    refine(uO _).mono ?_;rintro e w4 ⟨rfl,rfl⟩
    go_wp2_with fail
    refine m.mono ?_;rintro e c ⟨rfl,d⟩;have hu:=l c d;have hn:=λq=>j c q d
    clear l j m d
    go_wp2_with fail
    refine hu.mono ?_;rintro e w5 ⟨f5,C,_⟩;obtain rfl:=C;obtain⟨fW,I⟩:=hn _ f5;obtain⟨D,G,z,A,H⟩:=I.facts;have q6:∀v,(w5.setCell ⟨X.heap.size,0,ζ⟩ v).cell? ⟨X.heap.size+1,0,ζ⟩=γ (.bool η):=λv=>(oB (a:=⟨X.heap.size+1,0,ζ⟩) (kM _ _ _ _ (Nat.succ_ne_self _))).trans z
    have q7:∀v,(w5.setCell ⟨X.heap.size,0,ζ⟩ v).frozen? ⟨X.heap.size+1,0,ζ⟩=η:=λv=>(FO (a:=⟨X.heap.size+1,0,ζ⟩) (kM _ _ _ _ (Nat.succ_ne_self _))).trans A
    have bp:=I.put (fA _) (u:=.string ⟨T.toArray⟩) (v:=.bool ε);have fp:=Wj fW (a:=X.heap.size) (b:=X.heap.size+1) (u:=.string ⟨T.toArray⟩) (v:=.bool ε) (aQ _) (Nat.le_succ _);obtain⟨p1,_,p3,_⟩:=bp.facts;clear hu hn f5 bp I
    go_wp2_with fail
    refine yo (f:=224) (args:= #[.pointer (γ ⟨X.heap.size,0,ζ⟩),.pointer (γ ⟨X.heap.size+1,0,ζ⟩)]) (by simp) (by simp[go_sem]) ?_;refine(agY ⟨X.heap.size,0,ζ⟩ ⟨X.heap.size+1,0,ζ⟩ _).mono ?_;rintro e u' B ⟨rfl,rfl,rfl⟩;simp[xY,yp,results,Tw,go_sem,p1,p3];exact⟨rfl,fp⟩
 ·have hq:jt s.data.toList=ζ:=by unfold jt;rw[gc]
  rw[hq];have hz2:¬((s.size:Z)<=400):=by omega
  go_enter_defers Te,Tr
  go_wp2_with fail
  refine(qb _).mono ?_;rintro e c ⟨rfl,rfl⟩;obtain⟨D,G,z,A,H⟩:=y.facts;refine yo (f:=224) (args:= #[.pointer (γ ⟨X.heap.size,0,ζ⟩),.pointer (γ ⟨X.heap.size+1,0,ζ⟩)]) (by simp) (by simp[go_sem]) ?_;refine(L8 _ _ _ _ [] _ (fA _) D G z A H).mono ?_;rintro e u' B ⟨rfl,rfl,o,rfl⟩;obtain⟨P,Q,R⟩:=LX y (fA _) N (aQ _) o;simp[xY,yp,results,Tw,go_sem,P,Q];exact⟨rfl,R⟩
def Nv(g:ρ->O->ρ)(n:ρ->O)(a:O->(O->E τ)->Z->ξ->O)(b:O->(O->E τ)->Z->ξ->O->ρ)(c:O->(O->E τ)->Z->ξ->Z)(d:O->(O->E τ)->Z->ξ->ξ):aG:=
 ext (ext g0 245 (ai [.val] (K1 g n))) 244 (ai sR (qE a b c d))
def axi(g:ρ->O->ρ)(n:ρ->O)(b:O->(O->E τ)->Z->ξ->O)(c:O->(O->E τ)->Z->ξ->O->ρ)(d:O->(O->E τ)->Z->ξ->Z)(e:O->(O->E τ)->Z->ξ->ξ)(s:ρ):let a:=(0:Z);let f:=(ay s);let h:=(b (n s) (λj=>[b9 (g s j)]) a η);ad θ (Nv g n b c d e) K 100 f177 [.v (.string s)] [] (ag 0)
 =bif κ ((↑f:Z)> (400:Z))then rO [AV.af [AV.own 0 0,vB η]] [AB.row ε 0 1 (λ_=>[]) 9]else Ξ [ω f 4294967281,Δ (n s) (n s),e (n s) (λj=>[b9 (g s j)]) a η] (rO [AV.af [AV.own 0 h,AV.v (.bool (κ (d (n s) (λj=>[b9 (g s j)]) a η>=a)))]] [AB.row ε h 1 (λj=>[b9 (c (n s) (λj=>[b9 (g s j)]) a η j)]) 9]):=by intros;kernel_rfl
def jq(s:ρ):BM:=if s.size<=400 then dP η (cY (eD s 32)) []else⟨[],ζ,η⟩
def s8(s:ρ):O:=(jq s).T.length
def xg(s:ρ)(j:O):ρ:=c8 (jq s).T j
def s7(s:ρ):ξ:=(jq s).r.isSome
def Ll(g:ρ->O->ρ)(n:ρ->O)(k:ρ->ξ):E SA->χ FR
 |[.v (.string s)]=>γ {val:=.af [.own 0 (n s),.v (.bool (k s))],new:=[.row ε (n s) 1 (λj=>[.string (g s j)]) 9]}
 |_=>ζ
def ak':aK θ (Nv oM kU kC kW kV (j5 1002)):=az (az ba apd) apB
def GH(s:ρ):cY (eD s 32)=cD 32 s.data.toList:=by rw[show(32:Z)=(((32:υ).toNat:O):Z)from rfl,Cb,cY,rR];exact List.map_id' _
def aqb:ak θ 177 (ai [.val] (Ll xg s8 s7)):=by
 refine ca ak' func177 rfl λe p b q=>?_
 unfold Ll at b;split at b
 ·rename_i s
  cases b;refine⟨[],K,100,Φ.refl _,de _,?_⟩;show aE (ad θ (Nv oM kU kC kW kV (j5 1002)) K 100 f177 [.v (.string s)] [] (ag 0)) _
  rw[axi];have d:strs (λj=>[b9 (oM s j)]) (kU s)=eD s 32:=abM (eD s 32) _ rfl;have f:iI (kU s) (λj=>[b9 (oM s j)]) 0 η=dP η (cY (eD s 32)) []:=by unfold iI;rw[d];rfl
  refine aD (λc=>?_) λc=>?_
  ·have c:=aV c
   have a:jq s=⟨[],ζ,η⟩:=by unfold jq;rw[gc]
   have g:s8 s=0:=by unfold s8;rw[a];rfl
   have h:s7 s=η:=by unfold s7;rw[a];rfl
   rw[g,h];exact F ⟨_,rfl,rfl,.cons (ab.row λj i=>aR i (dh _)) .nil⟩
  ·have c:=cu c
   have a:jq s=iI (kU s) (λj=>[b9 (oM s j)]) 0 η:=by rw[f];unfold jq;rw[oW]
   have t:kU s<=401:=by
    have:=GH s;have k:(cY (eD s 32)).length=kU s:=by rw[dv];rfl
    have u:=y7 32 s.data.toList;have v:s.data.toList.length=s.size:=by rw[lm];rfl
    rw[<-k,this];omega
   have l:j5 1002 (kU s) (λj=>[b9 (oM s j)]) 0 η=ε:=by unfold j5;rw[show mO (kU s) (λj=>[b9 (oM s j)])=ε from bT.2 λ_ _=>rfl,show Δ (kU s) 1000=ε from by rw[bl];omega,di (by omega:(0:Z)<=0),di (by omega:(0:Z)<=(kU s:Z)),v7 (by omega)];rfl
   have m:κ (kV (kU s) (λj=>[b9 (oM s j)]) 0 η>=0)=s7 s:=by
    unfold s7 kV;rw[a];cases(iI (kU s) (λj=>[b9 (oM s j)]) 0 η).r with
    |none=>rfl
    |some r=>exact di (by show(0:Z)<=((kU s-r.length:O):Z);omega)
   have n:kC (kU s) (λj=>[b9 (oM s j)]) 0 η=s8 s:=by unfold kC s8;rw[a]
   have o:∀j,kW (kU s) (λj=>[b9 (oM s j)]) 0 η j=xg s j:=λj=>by unfold kW xg;rw[a]
   rw[m,n];simp only[o];exact aq (by simp only[Ω,ax,aj,bl,bM,l];omega) (F ⟨_,rfl,rfl,Φ.refl _⟩)
 ·cases b
def au1(u:ρ)(m:ξ):ck θ 0 (.block 0 (.loop (a5 0 SV))) (bm 50 (Dz .normal) 0 (xG u m 0 0) [] (λa=>cond (Δ u.size 4) (cond (bV (lG u) u.size) (a .normal (ar 0 50 [(4,.v (.bool m)),(5,.v (ι (kD u u.size)))]) []) (a .ret (ar 0 50 [(2,.v (ι 0)),(3,.v (.bool η))]) [])) .err)):=by
 refine dQ qT (n:=200) (m:=0) (lv:=Dz) (λi=>xG u m (kD u i) i) (λ_=>[]) (λi=>bV (lG u) i=ε) u.size (λ_=>K) (du rfl rfl rfl) (aQ _) rfl λa Q b i g l=>⟨cN _ _ _,?_⟩
 rcases(kT b).symm with⟨_,b⟩|⟨o,b⟩
 ·exact b.elim
 rw[bl]at o;obtain⟨s,t⟩:=Pj u i g;have v:=UN u i;rw[asI];refine aD (λc=>?_) λc=>?_
 ·have c:=aV c
  have w:(10:Z)^i<=1000:=by
   have:i=0\/i=1\/i=2\/i=3:=by omega
   rcases this with rfl|rfl|rfl|rfl<;>decide
  have k:aJ [κ (0<=(i:Z)),κ ((i:Z)<(u.size:Z))]=ε:=by simp only[Ω,ax,aj,aL];omega
  have d:lG u i=ε->(a .ret (ar 0 50 [(2,.v (ι 0)),(3,.v (.bool η))]) []).ok Q:=λh=>by rw[o5 (n:=u.size) (j:=i) (by omega) h]at b;exact b
  refine aq k (aD (λe=>?_) λe=>aq k (aD (λf=>?_) λf=>aq k ?_))
  ·have e:=aV e
   refine F ⟨_,Φ.refl _,d ?_⟩;unfold lG;rw[gF];rfl
  ·have f:=aV f
   refine F ⟨_,Φ.refl _,d ?_⟩;unfold lG;rw[gN (p:=bY u i<=57) (by omega),g7];rfl
  ·have e:=cu e
   have f:=cu f;have q:aa pu (bY u i-48)=bY u i-48:=by rw[Fh];omega
   rw[q,bz (x:=10*kD u i),bz (x:=bY u i-48),bz (x:=10*kD u i+(bY u i-48)),bz (x:=(i:Z)+1)];refine F ⟨i+1,⟨rfl,by omega,ro g ?_⟩,rfl,Φ.refl _⟩;unfold lG;rw[dc,dc];rfl
 ·have c:=cu c
  have:i=u.size:=by omega
  subst this;refine F ⟨_,Φ.refl _,?_⟩;rw[aU rfl];rw[g]at b;exact b
def ajw(s:ρ):s.extract 1 (aT (s.size:Z))=s.extract 1 s.size:=rfl
def ap8:ak θ 163 (ai [.val] (Lj ke k9)):=by
 refine ca qT func163 rfl λq u n w=>?_
 unfold Lj at n;split at n
 ·rename_i s
  cases n;refine⟨[],OD (dT s) (lS s) (Δ (dT s).size 4) (bV (lG (dT s)) (dT s).size) (kD (dT s) (dT s).size),200,Φ.refl _,da (au1 _ _),?_⟩;show aE (ad θ nH (OD (dT s) (lS s) (Δ (dT s).size 4) (bV (lG (dT s)) (dT s).size) (kD (dT s) (dT s).size)) 200 SV [.v (.string s)] [] (ag 0)) _
  rw[axc];have j:∀v b,ke s=v->k9 s=b->aE (.out .ret [.af [.v (ι v),.v (.bool b)]] []) (dX (bJ [Md.val] [SA.v (.string s)] []) {val:=.af [.v (ι (ke s)),.v (.bool (k9 s))]}):=by rintro v b rfl rfl;exact F ⟨_,rfl,rfl,Φ.refl _⟩
  have g:k9 s=η->aE (.out .ret [.af [.v (ι 0),.v (.bool η)]] []) (dX (bJ [Md.val] [SA.v (.string s)] []) {val:=.af [.v (ι (ke s)),.v (.bool (k9 s))]}):=λh=>j _ _ (by unfold ke;rw[h];rfl) h
  have size:aH (dT s).size 1 4=η->k9 s=η:=λh=>by unfold k9;rw[h];rfl
  have a:aH (dT s).size 1 4=ε->aE (bif bV (lG (dT s)) (dT s).size then bif lS s then .out .ret [.af [.v (ι (aa aY (0-kD (dT s) (dT s).size))),.v (.bool ε)]] []else .out .ret [.af [.v (ι (kD (dT s) (dT s).size)),.v (.bool ε)]] []else .out .ret [.af [.v (ι 0),.v (.bool η)]] []) (dX (bJ [Md.val] [SA.v (.string s)] []) {val:=.af [.v (ι (ke s)),.v (.bool (k9 s))]}):=λh=>by
   have x:=cd.1 h;refine aD (λc=>?_) λc=>g (by unfold k9;rw[c,g7])
   have o:k9 s=ε:=by unfold k9;rw[h,c];rfl
   have y:=Pj _ _ c;have z:(10:Z)^(dT s).size<=10000:=by
    have:(dT s).size=1\/(dT s).size=2\/(dT s).size=3\/(dT s).size=4:=by omega
    rcases this with h|h|h|h<;>rw[h]<;>decide
   refine aD (λd=>j _ _ ?_ o) λd=>j _ _ ?_ o
   ·unfold ke
    rw[o,d,bz];simp
   ·unfold ke
    rw[o,d];rfl
  have f:∀P:Prop,P->aH (dT s).size 1 4=ε->aJ [cy P,Δ (dT s).size 4]=ε:=λP h r=>by have:=cd.1 r;simp only[Ω,ax,aj,bl];exact⟨cG h,by omega⟩
  refine aD (λp=>?_) λp=>?_
  ·have t:=aV p
   refine c_ (aD (λl=>?_) λl=>?_)
   ·have i:lS s=ε:=by unfold lS;rw[p,l];rfl
    have m:dT s=s.extract 1 s.size:=by unfold dT;rw[i];rfl
    refine c_ ?_;rw[ajw,<-m];refine aD (λe=>g (size (by simpa using e))) λe=>aq (f _ ⟨by rw[l,i],Φ.refl _⟩ (by simpa using e)) (a (by simpa using e))
   ·have i:lS s=η:=by unfold lS;rw[l,g7]
    have m:dT s=s:=by unfold dT;rw[i];rfl
    rw[m]at size a f⊢;refine aD (λe=>g (size (by simpa using e))) λe=>aq (f _ ⟨by rw[l,i],Φ.refl _⟩ (by simpa using e)) (a (by simpa using e))
  ·have i:lS s=η:=by unfold lS;rw[p];rfl
   have m:dT s=s:=by unfold dT;rw[i];rfl
   rw[m]at size a f⊢;refine aD (λe=>g (size (by simpa using e))) λe=>aq (f _ ⟨by rw[i],Φ.refl _⟩ (by simpa using e)) (a (by simpa using e))
 ·cases n
def pW(bad:O->ξ):O->O
 |0=>0
 |n+1=>if pW bad n<n then pW bad n else if bad n then n else n+1
def zu{bad:O->ξ}:∀{n:O},bV bad n=ε->pW bad n=n
 |0,_=>rfl
 |n+1,h=>by rw[rn]at h;unfold pW;rw[zu (n:=n) (rn.2 λi a=>h i (by omega)),bI (ol _),bI (by rw[h n (fA n)];simp)]
def Wm{bad:O->ξ}{i:O}(h:bV bad i=ε)(a:bad i=ε):∀{n:O},i<n->pW bad n=i
 |0,b=>aR b (dh _)
 |n+1,b=>by
  unfold pW;by_cases c:i<n
  ·rw[Wm h a c,aU c]
  ·have:i=n:=by omega
   subst this;rw[zu h,bI (ol _),aU a]
def mS(q:O->ρ)(i:O):ξ:= !k9 (q i)
def WO:aK θ (HS bG cJ ke k9):=az (az ba ZG) ap8
def au2(k:Z)(m:O)(q:O->ρ)(l:m<=2^38):ck θ 0 (.block 0 (.loop (a5 0 S9))) (bm 40 (DA .normal) 0 (EI k m 0 0) (C4 m q 0 λj=>ke (q j)) (λa=>cond (bV (mS q) m) (a .normal (ar 0 40 [(1,.v (ι k)),(7,.own 0 m)]) [.row ε m 1 (qf λj=>ke (q j)) 3]) (a .ret (ar 0 40 [(4,.own 0 (pW (mS q) m)),(5,.v (.bool η))]) [.row ε (pW (mS q) m) 1 (qf λj=>ke (q j)) 3]))):=by
 refine dQ WO (n:=200) (m:=0) (lv:=DA) (λi=>EI k m i i) (λi=>C4 m q i λj=>ke (q j)) (λi=>bV (mS q) i=ε) m (λ_=>K) (du rfl rfl rfl) (aQ _) rfl λa Q c i d h=>⟨cN _ _ _,?_⟩
 rw[asJ];refine aD (λb=>?_) λb=>?_
 ·have b:=aV b
  rw[cV,bz (x:=(i:Z)+1)];refine c_ (aD (λe=>?_) λe=>c_ (F ⟨i+1,⟨rfl,by omega,ro d e⟩,rfl,.cons (ab.refl _) (.cons (ab.row λj p=>?_) .nil)⟩))
  ·have g:mS q i=ε:=e
   refine F ⟨_,Φ.refl _,?_⟩;rw[o5 (n:=m) (j:=i) (by omega) g,Wm d g (by omega)]at c;exact c
  ·show[ι _]=[ι _]
   by_cases f:j<i
   ·rw[v7 f]
    rfl
   ·have:j=i:=by omega
    subst this;rw[B5 (ol j)];rfl
 ·have b:=cu b
  have:i=m:=by omega
  subst this;refine F ⟨_,Φ.refl _,?_⟩;rw[aU rfl];rw[d]at c;exact c
def i8(s:ρ):O:=pW (mS (bG s 32)) (cJ s 32)
def jG(k:Z)(s:ρ):ξ:=bV (mS (bG s 32)) (cJ s 32)&&((cJ s 32:Z)==k)
def nS(s:ρ)(j:O):Z:=ke (bG s 32 j)
def BO(a:ρ->O)(b:Z->ρ->ξ)(c:ρ->O->Z):E SA->χ FR
 |[.v (.string s),.v (.int .i64 k)]=>γ {val:=.af [.own 0 (a s),.v (.bool (b k s))],new:=[.row ε (a s) 1 (qf (c s)) 3],aw:=[ω s.size 4294967281]}
 |_=>ζ
def PH:ak θ 95 (ai [.val,.val] (BO i8 jG nS)):=by
 refine ca WO func95 rfl λd h a b=>?_
 unfold BO at a;split at a
 ·rename_i s k
  cases a;simp only[Ω,ax,aj]at b;have e:=b;rw[bM]at e;have f:cJ s 32<=2^38:=by
   have:=se s 32 (s.size+1);show(b_ s 32 (s.size+1)).1.length<=2^38
   omega
  refine⟨[],OE k (cJ s 32) (bG s 32) (λj=>ke (bG s 32 j)) (bV (mS (bG s 32)) (cJ s 32)) (pW (mS (bG s 32)) (cJ s 32)),200,Φ.refl _,da (au2 k (cJ s 32) (bG s 32) f),?_⟩;show aE (ad θ (HS bG cJ ke k9) (OE k (cJ s 32) (bG s 32) (λj=>ke (bG s 32 j)) (bV (mS (bG s 32)) (cJ s 32)) (pW (mS (bG s 32)) (cJ s 32))) 200 S9 [.v (.string s),.v (ι k)] [] (ag 0)) _
  rw[axd];refine aq (by simp only[Ω,ax,aj];exact⟨b,cG ⟨trivial,.cons (ab.refl _) (.cons (ab.row λj g=>aR g (dh _)) .nil)⟩⟩) (aD (λc=>?_) λc=>?_)
  ·refine F ⟨_,rfl,?_,?_⟩
   ·show[AV.af [.own 0 (cJ s 32),.v (.bool ((cJ s 32:Z)==k))]]=[AV.af [.own 0 (i8 s),.v (.bool (jG k s))]]
    rw[show i8 s=cJ s 32 from zu c,show jG k s=((cJ s 32:Z)==k) by unfold jG;rw[c];rfl]
   ·show Φ _ [.row ε (i8 s) 1 (qf (nS s)) 3]
    rw[show i8 s=cJ s 32 from zu c];exact Φ.refl _
  ·refine F ⟨_,rfl,?_,Φ.refl _⟩
   show[AV.af [.own 0 (i8 s),.v (.bool η)]]=[AV.af [.own 0 (i8 s),.v (.bool (jG k s))]]
   rw[show jG k s=η by unfold jG;rw[c];rfl]
 ·cases a
def Mi(h:i<cJ D 32):(cD 32 D.data.toList).getD i []=(bG D 32 i).data.toList/\(cD 32 D.data.toList).length=cJ D 32:=by rw[<-GH];unfold cY bG eB cJ at*;refine⟨?_,dv _⟩;rw[cX,Sf,cX,df h];rfl
def Mj(s:ρ):(cD 32 s.data.toList).length=cJ s 32:=by rw[<-GH];exact dv _
def nT(k:O)(s:ρ):jG k s=cS k s.data.toList:=by
 unfold jG cS;rw[Mj,Bool.and_comm]
 congr 1
 ·rw[kg,fm,Sr]
  omega
 ·rw[kg,rn,bT]
  constructor
  ·intro h x e
   obtain⟨j,b,rfl⟩:=adY.1 e;have a:j<cJ s 32:=by rw[<-Mj];exact b
   have d:=h j a;have c:=(Mi a).1;rw[cX,df b,iK]at c;rw[c,<-IN];unfold mS at d;simpa using d
  ·intro h j b
   have a:j<(cD 32 s.data.toList).length:=by rw[Mj];exact b
   have c:=(Mi b).1;rw[cX,df a,iK]at c;unfold mS;rw[IN,<-c,h _ (ki a)];rfl
def uS(h:cS i D.data.toList=ε):i8 D=i:=by
 have a:=h;rw[<-nT]at a;unfold jG at a;rw[aP]at a;unfold i8;rw[zu a.1];have:(cJ D 32:Z)=i:=by simpa using a.2
 omega
def rk{k j:O}(h:cS k D.data.toList=ε)(e:j<k):nS D j=aN D.data.toList j:=by
 have d:=uS h;have a:=h;rw[<-nT]at a;unfold jG at a;rw[aP]at a;unfold i8 at d;rw[zu a.1]at d;have b:j<cJ D 32:=by omega
 have c:=(rn.1 a.1) j b;unfold nS aN;rw[(Mi b).1];unfold mS at c;rw[IN]at c;exact ayg _ (by simpa using c)
def kt(n:O):E υ:=[119,104,101,101,108,115,32]++(bg n++[10])
def GP(a:mN)(s:ρ):ρ:=⟨(mW (dM a (dq s.data.toList))).toArray⟩
structure TQ (Sg:mN) (s:ρ):Prop where
 size:s.size<=900
 ok:∀l∈dq s.data.toList,BS Sg l
 len:∀k,(dM Sg ((dq s.data.toList).take k)).2.length<=90000000
 lst:∀k,(dM Sg ((dq s.data.toList).take k)).1.length<=100000
noncomputable def MB(a:mN)(s:ρ):ξ:= @κ (TQ a s) (JQ _)
def VJ{a:mN}:MB a D=ε↔TQ a D:=by unfold MB;exact @decide_eq_true_iff _ (JQ _)
def Fr.none{w w':ψ}(f:Fr (au w) w w'):Fr (λ_=>False) w w':=⟨f.os,f.tape,f.output,f.size,λk a _=>f.block k a (gi.2 a)⟩
def K6(e:Z->Z->Z->Z->O->Z):E τ->χ (τ×E ξ)
 |[.agg ⟨[.int .i64 a,.int .i64 b]⟩,.agg ⟨[.int .i64 c,.int .i64 d]⟩]=>γ (.agg ⟨[ι (e a b c d 0),ι (e a b c d 1),ι (e a b c d 2),ι (e a b c d 3)]⟩,[])
 |_=>ζ
def sy(a:Z->Z->Z->Z->O->Z):aG:=ext g0 247 (aW (K6 a))
structure en where
 x:Z
 y:Z
 t:Z
 d:ξ
 a:O
 mv:O->E τ
 c:O
 eg:O->E τ
abbrev mj:Ex->E O:=cj [0,3,4] [3] [2]
abbrev ky(tp:ae)(n:O)(w:O->ρ)(s:en):E AB:=[.row ε n 1 (λj=>[.string (w j)]) tp,.cells [.v (ι s.x),.v (ι s.y),.v (.bool s.d),.v (ι s.t),.own 2 s.a,.own 3 s.c] 185,.row ε s.a 2 s.mv 95,.row ε s.c 4 s.eg 241]
abbrev n5(n:O)(i:Z):E AV:=[.own 0 n,.ptr 1 0 0 0,.v (ι i)]
abbrev xn:en:=⟨0,0,0,η,0,λ_=>[],0,λ_=>[]⟩
def awQ(a b c d:Z):let e:=[AV.agg [vI c,vI d,vI a,vI b]];let f:=[AV.agg [vI a,vI b,vI c,vI d]];ad θ g0 K 100 f247 [.v (.agg ⟨[ι a,ι b]⟩),.v (.agg ⟨[ι c,ι d]⟩)] [] dR
 =bif κ (c<a)then rO e []else bif c==a then bif κ (d<b)then rO e []else rO f []else rO f []:=by intros;kernel_rfl
noncomputable abbrev OG(tp:ae)(n:O)(w:O->ρ)(s:en):O->χ Sum:=bX 0 (bm 125 (mj .normal) 1 (n5 n 0) (ky tp n w xn) (λa=>a .normal (ar 0 125 [(3,.ptr 1 0 0 0)]) (ky tp n w s)))
def axu(h:Z->Z->Z->Z->O->Z)(tp:ae)(n:O)(w:O->ρ)(x y t:Z)(d:ξ)(a:O)(e:O->E τ)(c:O)(f:O->E τ):let b:=(en.mk x y t d a e c f);let g:=AB.row ε n 1 (λj=>[b9 (w j)]) tp;ad θ (sy h) (OG tp n w ⟨x,y,t,d,a,e,c,f⟩) 200 vA [.own 0 n] [.row ε n 1 (λj=>[.string (w j)]) tp] (ag 1)
 =Ξ [cy ([AV.own 0 n,AV.ptr 1 0 0 0,vI 0]=n5 n (0:Z)/\Φ [g,AB.cells [vI 0,vI 0,vB η,vI 0,AV.own 2 0,AV.own 3 0] 185,AB.row ε 0 2 (λ_=>[]) 95,AB.row ε 0 4 (λ_=>[]) 241] (ky tp n w xn))] (rO [AV.ptr 1 0 0 0] [g,AB.cells [vI (en.x b),vI (en.y b),AV.v (.bool (en.d b)),vI (en.t b),AV.own 2 (en.a b),AV.own 3 (en.c b)] 185,AB.row ε (en.a b) 2 (en.mv b) 95,AB.row ε (en.c b) 4 (en.eg b) 241]):=by intros;kernel_rfl
def As(tp:ae)(n:O)(w:O->ρ)(i:O)(s:en):am:=.out .normal (n5 n (aa .i64 ((i:Z)+1))) (ky tp n w s)
def Qm(a b:Z)(s:en):en:=
 ⟨aa .i64 (s.x+a),aa .i64 (s.y+b),s.t,s.d,s.a+1,λq=>lR (ω q s.a) (s.mv q) [ι a,ι b],s.c,s.eg⟩
def Qn(c:Z->Z->Z->Z->O->Z)(a b:Z)(s:en):en:=
 ⟨aa .i64 (s.x+a),aa .i64 (s.y+b),s.t,s.d,s.a+1,λq=>lR (ω q s.a) (s.mv q) [ι a,ι b],s.c+1,λq=>lR (ω q s.c) (s.eg q) [ι (c s.x s.y (aa .i64 (s.x+a)) (aa .i64 (s.y+b)) 0),ι (c s.x s.y (aa .i64 (s.x+a)) (aa .i64 (s.y+b)) 1),ι (c s.x s.y (aa .i64 (s.x+a)) (aa .i64 (s.y+b)) 2),ι (c s.x s.y (aa .i64 (s.x+a)) (aa .i64 (s.y+b)) 3)]⟩
def Ar(n i:O):E ξ:=[κ ((i:Z)<(n:Z)),κ (aT (i:Z)<n)]
def nU(b:υ):ρ:=ah (ap [b])
def Au(c:Z->Z->Z->Z->O->Z)(tp:ae)(n:O)(w:O->ρ)(i:O)(s:en)(a b:Z):am:=
 Ξ [Δ s.a s.a,Δ (s.a+1) 549755813888] (bif s.d then Ξ [Δ s.c s.c,Δ (s.c+1) 549755813888] (As tp n w i (Qn c a b s))else As tp n w i (Qm a b s))
def xm(tp:ae)(n:O)(w:O->ρ)(i:O)(s:en)(b:Z)(a:am):am:=
 Ξ (Ar n i) (bif cm (w (aT (i:Z))) (nU 117)then As tp n w i {s with d:=η}else Ξ (Ar n i) (bif cm (w (aT (i:Z))) (nU 100)then As tp n w i {s with d:=ε}else Ξ (Ar n i) (bif cm (w (aT (i:Z))) (nU 116)then As tp n w i {s with t:=b}else a)))
def uY(b:Z->Z->Z->Z->O->Z)(tp:ae)(n:O)(w:O->ρ)(i:O)(s:en)(a:Z)(c d:ao):am:=
 bif κ ((i:Z)<(n:Z))then Ξ (Ar n i) (bif cm (w (aT (i:Z))) (nU 101)then xm tp n w i s a (Au b tp n w i s (c 0) (d 0))else bif cm (w (aT (i:Z))) (nU 110)then xm tp n w i s a (Au b tp n w i s (c 1) (d 1))else bif cm (w (aT (i:Z))) (nU 119)then xm tp n w i s a (Au b tp n w i s (c 2) (d 2))else bif cm (w (aT (i:Z))) (nU 115)then xm tp n w i s a (Au b tp n w i s (c 3) (d 3))else xm tp n w i s a (As tp n w i s))
 else .out (.exit 0) [.ptr 1 0 0 0] (ky tp n w s)
def aba(b:Z->Z->Z->Z->O->Z)(tp:ae)(n:O)(w:O->ρ)(x y:Z)(d:ξ)(a:O)(e:O->E τ)(c:O)(f:O->E τ)(i:O):a0 θ (sy b) 200 K (a5 0 vA) (ar 0 125 ((mj .normal).zip (n5 n i))) (ky tp n w ⟨x,y,0,d,a,e,c,f⟩) (cw 125 mj 1)=uY b tp n w i ⟨x,y,0,d,a,e,c,f⟩ 1 (λk=>pm ((k+0)%4)) (λk=>pn ((k+0)%4)):=by kernel_rfl
def abb(b:Z->Z->Z->Z->O->Z)(tp:ae)(n:O)(w:O->ρ)(x y:Z)(d:ξ)(a:O)(e:O->E τ)(c:O)(f:O->E τ)(i:O):a0 θ (sy b) 200 K (a5 0 vA) (ar 0 125 ((mj .normal).zip (n5 n i))) (ky tp n w ⟨x,y,1,d,a,e,c,f⟩) (cw 125 mj 1)=uY b tp n w i ⟨x,y,1,d,a,e,c,f⟩ 2 (λk=>pm ((k+1)%4)) (λk=>pn ((k+1)%4)):=by kernel_rfl
def abc(b:Z->Z->Z->Z->O->Z)(tp:ae)(n:O)(w:O->ρ)(x y:Z)(d:ξ)(a:O)(e:O->E τ)(c:O)(f:O->E τ)(i:O):a0 θ (sy b) 200 K (a5 0 vA) (ar 0 125 ((mj .normal).zip (n5 n i))) (ky tp n w ⟨x,y,2,d,a,e,c,f⟩) (cw 125 mj 1)=uY b tp n w i ⟨x,y,2,d,a,e,c,f⟩ 3 (λk=>pm ((k+2)%4)) (λk=>pn ((k+2)%4)):=by kernel_rfl
def abd(b:Z->Z->Z->Z->O->Z)(tp:ae)(n:O)(w:O->ρ)(x y:Z)(d:ξ)(a:O)(e:O->E τ)(c:O)(f:O->E τ)(i:O):a0 θ (sy b) 200 K (a5 0 vA) (ar 0 125 ((mj .normal).zip (n5 n i))) (ky tp n w ⟨x,y,3,d,a,e,c,f⟩) (cw 125 mj 1)=uY b tp n w i ⟨x,y,3,d,a,e,c,f⟩ 0 (λk=>pm ((k+3)%4)) (λk=>pn ((k+3)%4)):=by kernel_rfl
def Ep(e:Z->Z->Z->Z->O->Z)(f:Z)(a c:ao)(b:υ)(s:en):en:=
 bif b==117 then{s with d:=η}else bif b==100 then{s with d:=ε}else bif b==116 then{s with t:=f}
 else bif s.d then Qn e (a (n7 b)) (c (n7 b)) s else Qm (a (n7 b)) (c (n7 b)) s
variable {Q:Ex->E AV->E AB->Prop}
def Je{t:Z->Z->Z->Z->O->Z}{w:O->ρ}{f:O}{s:en}{u v:O->Z}{b:υ}(C:kb b=ε)(D:w f=nU b)(I:f<i)(L:s.a<1000)(x:s.c<1000)(h:Q .normal (n5 i (aa .i64 ((f:Z)+1))) (ky N i w (Ep t A u v b s))):aE (uY t N i w f s A u v) Q:=by
 have j:∀c,cm (w (aT (f:Z))) (nU c)=ε↔b=c:=λc=>by rw[cV,D];unfold nU;rw[Mx,aL];exact⟨λh=>by cases h;rfl,λh=>by rw[h]⟩
 have m:aJ (Ar i f)=ε:=by unfold Ar;simp only[Ω,ax,aj,aL];omega
 have o:∀k,b≠117->b≠100->b≠116->n7 b=k->aE (Au t N i w f s (u k) (v k)) Q:=λk y z B l=>by
  unfold Ep at h;rw[cq.2 y,cq.2 z,cq.2 B,be,be,be,l]at h;unfold Au;refine c_ (aD (λc=>?_) λc=>?_)
  ·rw[c,a6]at h
   exact c_ (F h)
  ·rw[c,be]at h
   exact F h
 have l:∀d,(b≠117->b≠100->b≠116->aE d Q)->aE (xm N i w f s A d) Q:=λd G=>by
  unfold xm;refine aq m (aD (λc=>?_) λp=>aq m (aD (λc=>?_) λq=>aq m (aD (λc=>?_) λr=>G ?_ ?_ ?_)))
  ·obtain rfl:=(j 117).1 c
   exact F h
  ·obtain rfl:=(j 100).1 c
   exact F h
  ·obtain rfl:=(j 116).1 c
   exact F h
  ·exact λe=>by rw[(j 117).2 e]at p;cases p
  ·exact λe=>by rw[(j 100).2 e]at q;cases q
  ·exact λe=>by rw[(j 116).2 e]at r;cases r
 unfold uY;refine cv (dc) (aq m (aD (λc=>?_) λp=>aD (λc=>?_) λq=>aD (λc=>?_) λr=>aD (λc=>?_) λH=>?_))
 ·obtain rfl:=(j 101).1 c
  exact l _ λa b c=>o 0 a b c rfl
 ·obtain rfl:=(j 110).1 c
  exact l _ λa b c=>o 1 a b c rfl
 ·obtain rfl:=(j 119).1 c
  exact l _ λa b c=>o 2 a b c rfl
 ·obtain rfl:=(j 115).1 c
  exact l _ λa b c=>o 3 a b c rfl
 ·refine l _ λy z B=>aR C ?_
  have g:∀c,cm (w (aT (f:Z))) (nU c)=η->b≠c:=λc x e=>by rw[(j c).2 e]at x;cases x
  unfold kb;rw[cq.2 y,cq.2 z,cq.2 B,cq.2 (g _ p),cq.2 (g _ q),cq.2 (g _ r),cq.2 (g _ H)]
  decide
def kL(a:Z->Z->Z->Z->O->Z)(s:en)(b:υ):en:=Ep a ((s.t+1)%4) (λk=>pm ((k+s.t.toNat)%4)) (λk=>pn ((k+s.t.toNat)%4)) b s
def lX(a:Z->Z->Z->Z->O->Z)(T:E υ):en:=T.foldl (kL a) xn
def atu{a:Z->Z->Z->Z->O->Z}{s:en}{b:υ}(h:(0<=s.t/\s.t<4)/\s.a<=i/\s.c<=i):(0<=(kL a s b).t/\(kL a s b).t<4)/\(kL a s b).a<=i+1/\(kL a s b).c<=i+1:=by
 unfold kL Ep;cases b==117 with
 |true=>simp only[a6];omega
 |false=>
  cases b==100 with
  |true=>simp only[a6,be];omega
  |false=>
   cases b==116 with
   |true=>simp only[a6,be];omega
   |false=>
    cases c:s.d with
    |true=>simp only[a6,be,Qn];omega
    |false=>simp only[be,Qm];omega
def aa_(a:Z->Z->Z->Z->O->Z):∀(T:E υ)(s:en)(m:O),((0<=s.t/\s.t<4)/\s.a<=m/\s.c<=m)->((0<=(T.foldl (kL a) s).t/\(T.foldl (kL a) s).t<4)/\(T.foldl (kL a) s).a<=m+T.length/\(T.foldl (kL a) s).c<=m+T.length)
 |[],_,_,h=>h
 |b::T,s,m,h=>by have:=aa_ a T (kL a s b) (m+1) (atu h);rw[Bm,bZ];omega
def aa'(a:Z->Z->Z->Z->O->Z):∀(T:E υ)(s:en)(p:pI)(m:O),m+T.length<=1000000->((-(m:Z)<=p.x/\p.x<=m)/\(-(m:Z)<=p.y/\p.y<=m)/\p.t<4)->(s.x=p.x/\s.y=p.y/\s.t=p.t)->(T.foldl (kL a) s).x=(T.foldl eX p).x/\(T.foldl (kL a) s).y=(T.foldl eX p).y/\(T.foldl (kL a) s).t=(T.foldl eX p).t
 |[],_,_,_,_,_,h=>h
 |b::T,s,p,m,k,l,h=>by
  rw[bZ]at k;rw[Bm,Bm];have f:=aas (b:=b) l;refine aa' a T (kL a s b) (eX p b) (m+1) (by omega) (by rw[Int.natCast_succ];exact f) ?_;obtain⟨c,d,e⟩:=h;have g:s.t.toNat=p.t:=by omega
  have n:=acQ ((n7 b+p.t)%4);unfold kL Ep eX;rw[g];cases b==117 with
  |true=>exact⟨c,d,e⟩
  |false=>
   cases b==100 with
   |true=>exact⟨c,d,e⟩
   |false=>
    cases b==116 with
    |true=>
     refine⟨c,d,?_⟩;show(s.t+1)%4=(((p.t+1)%4:O):Z)
     omega
    |false=>
     have i:aa aY (s.x+pm ((n7 b+p.t)%4))=p.x+pm ((n7 b+p.t)%4):=by rw[c];exact bz
     have j:aa aY (s.y+pn ((n7 b+p.t)%4))=p.y+pn ((n7 b+p.t)%4):=by rw[d];exact bz
     cases s.d with
     |true=>exact⟨i,j,e⟩
     |false=>exact⟨i,j,e⟩
def za(a b c d:Z):ξ:=κ (c<a)||(c==a&&κ (d<b))
def fN(a b c d:Z)(k:O):Z:=bif za a b c d then(match k with|0=>c|1=>d|2=>a|_=>b)else(match k with|0=>a|1=>b|2=>c|_=>d)
def apw:ak θ 247 (aW (K6 fN)):=by
 refine et (n:=100) ba func247 rfl λm x o f p=>?_
 unfold K6 at f;split at f
 ·rename_i a b c d
  simp only[aC,cI]at f;obtain⟨rfl,rfl⟩:=f;have e:=awQ a b c d;simp only[eG,kQ];rw[e];have i:∀q,q=za a b c d->aE (.out .ret [.agg (bif q then[.v (ι c),.v (ι d),.v (ι a),.v (ι b)]else[.v (ι a),.v (ι b),.v (ι c),.v (ι d)])] []) (oI (.agg ⟨[ι (fN a b c d 0),ι (fN a b c d 1),ι (fN a b c d 2),ι (fN a b c d 3)]⟩)):=λq l=>by
   unfold fN;rw[<-l];cases q with
   |true=>exact F ⟨_,rfl,rfl⟩
   |false=>exact F ⟨_,rfl,rfl⟩
  suffices h:aE _ (oI (.agg ⟨[ι (fN a b c d 0),ι (fN a b c d 1),ι (fN a b c d 2),ι (fN a b c d 3)]⟩))from⟨h.out⟩
  refine aD (λg=>?_) λg=>aD (λj=>aD (λk=>?_) λk=>?_) λj=>?_
  ·exact i ε (by unfold za;rw[g];rfl)
  ·exact i ε (by unfold za;rw[g,j,k];rfl)
  ·exact i η (by unfold za;rw[g,j,k];rfl)
  ·exact i η (by unfold za;rw[g,j];rfl)
 ·cases f
def aqZ(T:E υ)(i:O):c8 T i=nU (T.getD i 0):=rfl
def atv{o:Z->Z->Z->Z->O->Z}{w:O->ρ}{e:O}{s:en}{b:υ}(f:kb b=ε)(g:w e=nU b)(j:e<i)(p:0<=s.t/\s.t<4)(k:s.a<1000)(l:s.c<1000)(h:Q .normal (n5 i (aa .i64 ((e:Z)+1))) (ky N i w (kL o s b))):aE (a0 θ (sy o) 200 K (a5 0 vA) (ar 0 125 ((mj .normal).zip (n5 i e))) (ky N i w s) (cw 125 mj 1)) Q:=by
 obtain⟨x,y,t,d,a,q,c,r⟩:=s;have m:t=0\/t=1\/t=2\/t=3:=by simp only at p;omega
 rcases m with rfl|rfl|rfl|rfl
 ·rw[aba];exact Je f g j k l h
 ·rw[abb];exact Je f g j k l h
 ·rw[abc];exact Je f g j k l h
 ·rw[abd];exact Je f g j k l h
def atw{g:Z->Z->Z->Z->O->Z}{w:O->ρ}{b:O}{s:en}(o:¬b<i)(m:0<=s.t/\s.t<4)(h:Q (.exit 0) [.ptr 1 0 0 0] (ky N i w s)):aE (a0 θ (sy g) 200 K (a5 0 vA) (ar 0 125 ((mj .normal).zip (n5 i b))) (ky N i w s) (cw 125 mj 1)) Q:=by
 have e:∀j k l,aE (uY g N i w b s j k l) Q:=λj k l=>by unfold uY;exact bA (gF) (F h)
 obtain⟨x,y,t,d,a,p,c,q⟩:=s;have f:t=0\/t=1\/t=2\/t=3:=by simp only at m;omega
 rcases f with rfl|rfl|rfl|rfl
 ·rw[aba];exact e _ _ _
 ·rw[abb];exact e _ _ _
 ·rw[abc];exact e _ _ _
 ·rw[abd];exact e _ _ _
def WV:aK θ (sy fN):=az ba apw
def au_(tp:ae)(n:O)(T:E υ)(g:T.all kb=ε)(o:T.length=n)(p:n<=999):ck θ 1 (.block 0 (.loop (a5 0 vA))) (bm 125 (mj .normal) 1 (n5 n 0) (ky tp n (c8 T) xn) (λa=>a .normal (ar 0 125 [(3,.ptr 1 0 0 0)]) (ky tp n (c8 T) (lX fN T)))):=by
 have d:∀i,i<=n->(0<=(lX fN (T.take i)).t/\(lX fN (T.take i)).t<4)/\(lX fN (T.take i)).a<=i/\(lX fN (T.take i)).c<=i:=λi q=>by have:=aa_ fN (T.take i) xn 0 (by decide);rw[pz,bH,show min i T.length=i by omega]at this;exact this
 have h:xn=lX fN (T.take 0):=rfl;rw[h];refine dQ WV (n:=200) (m:=1) (lv:=mj) (λj=>n5 n (j:O)) (λj=>ky tp n (c8 T) (lX fN (T.take j))) (λ_=>True) n (λ_=>K) (du rfl rfl rfl) (aQ _) trivial λa Q e j _ k=>⟨cN _ _ _,?_⟩
 have c:=d j k;by_cases b:j<n
 ·have l:kb (T.getD j 0)=ε:=by rw[cX,df (by omega)];exact bT.1 g _ (ki _)
  refine atv l (aqZ T j) b c.1 (by omega) (by omega) ⟨j+1,⟨rfl,b,trivial⟩,?_,?_⟩
  ·have:((j:O):Z)+1=((j+1:O):Z):=by omega
   rw[bz,this]
  ·have:lX fN (T.take (j+1))=kL fN (lX fN (T.take j)) (T.getD j 0):=by unfold lX;rw[yf (by omega),Bl,cX,df (by omega)];rfl
   show Φ _ (ky tp n (c8 T) (lX fN (T.take (j+1))))
   rw[this];exact Φ.refl _
 ·have f:j=n:=by omega
  subst f;refine atw b c.1 ⟨_,Φ.refl _,?_⟩;rw[aU rfl,show T.take j=T from pA (by omega)];exact e
def mU(n:O)(g:O->E τ):E υ:=(cY (strs g n)).flatten
def xd(n:O)(g:O->E τ):ξ:=mO n g&&((cY (strs g n)).all hU&&Δ n 999)
def vd(n:O)(g:O->E τ):en:=lX fN (mU n g)
def aoD(h:xd i p=ε):i<=999/\(mU i p).all kb=ε/\(mU i p).length=i/\∀j,j<i->p j=[.string (c8 (mU i p) j)]:=by
 unfold xd at h;simp only[aP,bl]at h;obtain⟨m,o,q⟩:=h;have d:∀a:E ρ,(cY a).all hU=ε->((cY a).flatten).all kb=ε/\(cY a).flatten.length=a.length/\∀(j:O)(c:j<a.length),a[j]=c8 (cY a).flatten j:=by
  intro a;induction a with
  |nil=>exact λ_=>⟨rfl,rfl,λj c=>aR c (dh _)⟩
  |cons s a f=>
   intro h;unfold cY at h f⊢;rw[eG,gA,aP]at h;obtain⟨r,t,u⟩:=f h.2;have k:=h.1
   match e:s.data.toList,Im h.1 with
   |[b],_=>
    rw[e]at k;refine⟨?_,?_,λj c=>?_⟩
    ·rw[eG,Bj,e,gM,r,jb,gA,kh,jb]
     exact k
    ·rw[eG,Bj,e,bN,t,bZ,bZ,eY]
     omega
    ·rw[eG,Bj,e]
     cases j with
     |zero=>apply qI;rw[yd,e];rfl
     |succ j=>rw[Si,u j (by simpa using c)];rfl
 have l:(strs p i).length=i:=by simp[strs]
 obtain⟨v,w,x⟩:=d (strs p i) o;refine⟨q,v,w.trans l,λj c=>?_⟩;rw[yS m c];have:=x j (by rw[l];exact c);unfold mU;rw[<-this];simp[strs]
def Lt(a:O->(O->E τ)->en)(c:O->(O->E τ)->ξ):E AV->E AB->χ HR
 |[.own 0 n],[.row ε b 1 g d]=>γ {val:=.ptr 1 0 0 0,out:=[.row ε b 1 g d],new:=[.cells [.v (ι (a n g).x),.v (ι (a n g).y),.v (.bool (a n g).d),.v (ι (a n g).t),.own 2 (a n g).a,.own 3 (a n g).c] 185,.row ε (a n g).a 2 (a n g).mv 95,.row ε (a n g).c 4 (a n g).eg 241],aw:=[Ψ n b,c n g]}
 |_,_=>ζ
def aqq:ak θ 178 (ev [] (Lt vd xd)):=by
 refine nZ WV func178 rfl λq H w e l=>?_
 unfold Lt at e;split at e
 ·rename_i n x g c
  cases e;simp only[Ω,ax,aj]at l;obtain⟨r,h⟩:=l;obtain rfl:=cA r;obtain⟨s,t,u,o⟩:=aoD h;have v:ab (.row ε n 1 g c) (.row ε n 1 (λj=>[.string (c8 (mU n g) j)]) c):=ab.row λj d=>o j d
  refine⟨[.row ε n 1 (λj=>[.string (c8 (mU n g) j)]) c],OG c n (c8 (mU n g)) (vd n g),200,.cons v .nil,da (au_ c n (mU n g) t u s),?_⟩;show aE (ad θ (sy fN) (OG c n (c8 (mU n g)) (vd n g)) 200 vA [.own 0 n] [.row ε n 1 (λj=>[.string (c8 (mU n g) j)]) c] (ag 1)) _
  have i:∀a:en,a=⟨a.x,a.y,a.t,a.d,a.a,a.mv,a.c,a.eg⟩:=λ_=>rfl
  rw[i (vd n g),axu];have nil:∀(b:ξ)(m:O)(f p:O->E τ)(k:ae),ab (.row b 0 m f k) (.row b 0 m p k):=λb m f p k=>ab.row λj d=>aR d (dh _)
  refine aq (by simp only[Ω,ax,aj];exact cG ⟨by trivial,.cons (ab.refl _) (.cons (ab.refl _) (.cons (nil _ _ _ _ _) (.cons (nil _ _ _ _ _) .nil)))⟩) (F ⟨rfl,?_⟩);exact .cons (ab.row λj d=>(o j d).symm) (Φ.refl _)
 ·cases e
def Yn(s:ρ)(c:Z):Z:=adJ s.data.toList c.toNat.toUInt8
def K'(a:ρ->Z->Z):E τ->χ (τ×E ξ)
 |[.string s,.int .u8 c]=>γ (ι (a s c),[])
 |_=>ζ
def apQ:ak θ 227 (aW (K' Yn)):=by
 refine n4 (λargs w=>enters 227 f227 func227 rfl args w) λb x d a f w g=>?_
 unfold K' at a;split at a
 ·rename_i s c
  simp only[aC,cI]at a;obtain⟨rfl,rfl⟩:=a;refine(Any.strings_IndexByte anb s c w).mono ?_;rintro e h ⟨rfl,rfl⟩;exact⟨rfl,Fr.refl _ _⟩
 ·cases a
def fO:aG:=ext g0 227 (aW (K' Yn))
def akZ:aK θ fO:=az ba apQ
abbrev cH(x y t:Z)(d:ξ)(tp:ae):E AB:=[.cells [.v (ι x),.v (ι y),.v (ι t),.v (.bool d)] tp]
def CZ(b:Z):ξ:=b==101||(b==110||(b==119||b==115))
def acP(b t:Z):O:=((bif b==101 then 0 else bif b==110 then 1 else bif b==119 then 2 else 3)+t.toNat)%4
def lI(b t:Z):Z:=bif CZ b then pm (acP b t)else 0
def lJ(b t:Z):Z:=bif CZ b then pn (acP b t)else 0
def DY(b t:Z):Z:=bif b==116 then(((t.toNat+1)%4:O):Z)else t
def Zg(b:Z)(d:ξ):ξ:=bif b==117 then η else bif b==100 then ε else d
def Jr(b:Z):ξ:=b==117||(b==100||(b==116||CZ b))
def doR(b x y t:Z)(d:ξ)(tp:ae)(e:Ex)(vs:E AV)(H:E AB):Prop:=e=.ret/\vs=[.af [.agg [.v (ι (lI b t)),.v (ι (lJ b t))],.v (.bool (CZ b))]]/\H=cH (x+lI b t) (y+lJ b t) (DY b t) (Zg b d) tp
def aip(x y:Z)(d:ξ)(tp:ae):ad θ fO K 100 gB [.ptr 0 0 0 0,.v (.int .u8 117)] (cH x y 0 d tp) (ag 1)=.out .ret [.af [.agg [.v (ι 0),.v (ι 0)],.v (.bool η)]] (cH x y 0 η tp):=by kernel_rfl
def aiq(x y:Z)(d:ξ)(tp:ae):ad θ fO K 100 gB [.ptr 0 0 0 0,.v (.int .u8 117)] (cH x y 1 d tp) (ag 1)=.out .ret [.af [.agg [.v (ι 0),.v (ι 0)],.v (.bool η)]] (cH x y 1 η tp):=by kernel_rfl
def air(x y:Z)(d:ξ)(tp:ae):ad θ fO K 100 gB [.ptr 0 0 0 0,.v (.int .u8 117)] (cH x y 2 d tp) (ag 1)=.out .ret [.af [.agg [.v (ι 0),.v (ι 0)],.v (.bool η)]] (cH x y 2 η tp):=by kernel_rfl
def ais(x y:Z)(d:ξ)(tp:ae):ad θ fO K 100 gB [.ptr 0 0 0 0,.v (.int .u8 117)] (cH x y 3 d tp) (ag 1)=.out .ret [.af [.agg [.v (ι 0),.v (ι 0)],.v (.bool η)]] (cH x y 3 η tp):=by kernel_rfl
def ah7(x y:Z)(d:ξ)(tp:ae):ad θ fO K 100 gB [.ptr 0 0 0 0,.v (.int .u8 100)] (cH x y 0 d tp) (ag 1)=.out .ret [.af [.agg [.v (ι 0),.v (ι 0)],.v (.bool η)]] (cH x y 0 ε tp):=by kernel_rfl
def ah8(x y:Z)(d:ξ)(tp:ae):ad θ fO K 100 gB [.ptr 0 0 0 0,.v (.int .u8 100)] (cH x y 1 d tp) (ag 1)=.out .ret [.af [.agg [.v (ι 0),.v (ι 0)],.v (.bool η)]] (cH x y 1 ε tp):=by kernel_rfl
def ah9(x y:Z)(d:ξ)(tp:ae):ad θ fO K 100 gB [.ptr 0 0 0 0,.v (.int .u8 100)] (cH x y 2 d tp) (ag 1)=.out .ret [.af [.agg [.v (ι 0),.v (ι 0)],.v (.bool η)]] (cH x y 2 ε tp):=by kernel_rfl
def ah_(x y:Z)(d:ξ)(tp:ae):ad θ fO K 100 gB [.ptr 0 0 0 0,.v (.int .u8 100)] (cH x y 3 d tp) (ag 1)=.out .ret [.af [.agg [.v (ι 0),.v (ι 0)],.v (.bool η)]] (cH x y 3 ε tp):=by kernel_rfl
def ail(x y:Z)(d:ξ)(tp:ae):ad θ fO K 100 gB [.ptr 0 0 0 0,.v (.int .u8 116)] (cH x y 0 d tp) (ag 1)=.out .ret [.af [.agg [.v (ι 0),.v (ι 0)],.v (.bool η)]] (cH x y 1 d tp):=by kernel_rfl
def aim(x y:Z)(d:ξ)(tp:ae):ad θ fO K 100 gB [.ptr 0 0 0 0,.v (.int .u8 116)] (cH x y 1 d tp) (ag 1)=.out .ret [.af [.agg [.v (ι 0),.v (ι 0)],.v (.bool η)]] (cH x y 2 d tp):=by kernel_rfl
def ain(x y:Z)(d:ξ)(tp:ae):ad θ fO K 100 gB [.ptr 0 0 0 0,.v (.int .u8 116)] (cH x y 2 d tp) (ag 1)=.out .ret [.af [.agg [.v (ι 0),.v (ι 0)],.v (.bool η)]] (cH x y 3 d tp):=by kernel_rfl
def aio(x y:Z)(d:ξ)(tp:ae):ad θ fO K 100 gB [.ptr 0 0 0 0,.v (.int .u8 116)] (cH x y 3 d tp) (ag 1)=.out .ret [.af [.agg [.v (ι 0),.v (ι 0)],.v (.bool η)]] (cH x y 0 d tp):=by kernel_rfl
def ah'(x y:Z)(d:ξ)(tp:ae):ad θ fO K 100 gB [.ptr 0 0 0 0,.v (.int .u8 101)] (cH x y 0 d tp) (ag 1)=.out .ret [.af [.agg [.v (ι 1),.v (ι 0)],.v (.bool ε)]] (cH (aa aY (x+1)) (aa aY (y+0)) 0 d tp):=by kernel_rfl
def aia(x y:Z)(d:ξ)(tp:ae):ad θ fO K 100 gB [.ptr 0 0 0 0,.v (.int .u8 101)] (cH x y 1 d tp) (ag 1)=.out .ret [.af [.agg [.v (ι 0),.v (ι 1)],.v (.bool ε)]] (cH (aa aY (x+0)) (aa aY (y+1)) 1 d tp):=by kernel_rfl
def aib(x y:Z)(d:ξ)(tp:ae):ad θ fO K 100 gB [.ptr 0 0 0 0,.v (.int .u8 101)] (cH x y 2 d tp) (ag 1)=.out .ret [.af [.agg [.v (ι (-1)),.v (ι 0)],.v (.bool ε)]] (cH (aa aY (x+(-1))) (aa aY (y+0)) 2 d tp):=by kernel_rfl
def aic(x y:Z)(d:ξ)(tp:ae):ad θ fO K 100 gB [.ptr 0 0 0 0,.v (.int .u8 101)] (cH x y 3 d tp) (ag 1)=.out .ret [.af [.agg [.v (ι 0),.v (ι (-1))],.v (.bool ε)]] (cH (aa aY (x+0)) (aa aY (y+(-1))) 3 d tp):=by kernel_rfl
def aid(x y:Z)(d:ξ)(tp:ae):ad θ fO K 100 gB [.ptr 0 0 0 0,.v (.int .u8 110)] (cH x y 0 d tp) (ag 1)=.out .ret [.af [.agg [.v (ι 0),.v (ι 1)],.v (.bool ε)]] (cH (aa aY (x+0)) (aa aY (y+1)) 0 d tp):=by kernel_rfl
def aie(x y:Z)(d:ξ)(tp:ae):ad θ fO K 100 gB [.ptr 0 0 0 0,.v (.int .u8 110)] (cH x y 1 d tp) (ag 1)=.out .ret [.af [.agg [.v (ι (-1)),.v (ι 0)],.v (.bool ε)]] (cH (aa aY (x+(-1))) (aa aY (y+0)) 1 d tp):=by kernel_rfl
def aif(x y:Z)(d:ξ)(tp:ae):ad θ fO K 100 gB [.ptr 0 0 0 0,.v (.int .u8 110)] (cH x y 2 d tp) (ag 1)=.out .ret [.af [.agg [.v (ι 0),.v (ι (-1))],.v (.bool ε)]] (cH (aa aY (x+0)) (aa aY (y+(-1))) 2 d tp):=by kernel_rfl
def aig(x y:Z)(d:ξ)(tp:ae):ad θ fO K 100 gB [.ptr 0 0 0 0,.v (.int .u8 110)] (cH x y 3 d tp) (ag 1)=.out .ret [.af [.agg [.v (ι 1),.v (ι 0)],.v (.bool ε)]] (cH (aa aY (x+1)) (aa aY (y+0)) 3 d tp):=by kernel_rfl
def ait(x y:Z)(d:ξ)(tp:ae):ad θ fO K 100 gB [.ptr 0 0 0 0,.v (.int .u8 119)] (cH x y 0 d tp) (ag 1)=.out .ret [.af [.agg [.v (ι (-1)),.v (ι 0)],.v (.bool ε)]] (cH (aa aY (x+(-1))) (aa aY (y+0)) 0 d tp):=by kernel_rfl
def aiu(x y:Z)(d:ξ)(tp:ae):ad θ fO K 100 gB [.ptr 0 0 0 0,.v (.int .u8 119)] (cH x y 1 d tp) (ag 1)=.out .ret [.af [.agg [.v (ι 0),.v (ι (-1))],.v (.bool ε)]] (cH (aa aY (x+0)) (aa aY (y+(-1))) 1 d tp):=by kernel_rfl
def aiv(x y:Z)(d:ξ)(tp:ae):ad θ fO K 100 gB [.ptr 0 0 0 0,.v (.int .u8 119)] (cH x y 2 d tp) (ag 1)=.out .ret [.af [.agg [.v (ι 1),.v (ι 0)],.v (.bool ε)]] (cH (aa aY (x+1)) (aa aY (y+0)) 2 d tp):=by kernel_rfl
def aiw(x y:Z)(d:ξ)(tp:ae):ad θ fO K 100 gB [.ptr 0 0 0 0,.v (.int .u8 119)] (cH x y 3 d tp) (ag 1)=.out .ret [.af [.agg [.v (ι 0),.v (ι 1)],.v (.bool ε)]] (cH (aa aY (x+0)) (aa aY (y+1)) 3 d tp):=by kernel_rfl
def aih(x y:Z)(d:ξ)(tp:ae):ad θ fO K 100 gB [.ptr 0 0 0 0,.v (.int .u8 115)] (cH x y 0 d tp) (ag 1)=.out .ret [.af [.agg [.v (ι 0),.v (ι (-1))],.v (.bool ε)]] (cH (aa aY (x+0)) (aa aY (y+(-1))) 0 d tp):=by kernel_rfl
def aii(x y:Z)(d:ξ)(tp:ae):ad θ fO K 100 gB [.ptr 0 0 0 0,.v (.int .u8 115)] (cH x y 1 d tp) (ag 1)=.out .ret [.af [.agg [.v (ι 1),.v (ι 0)],.v (.bool ε)]] (cH (aa aY (x+1)) (aa aY (y+0)) 1 d tp):=by kernel_rfl
def aij(x y:Z)(d:ξ)(tp:ae):ad θ fO K 100 gB [.ptr 0 0 0 0,.v (.int .u8 115)] (cH x y 2 d tp) (ag 1)=.out .ret [.af [.agg [.v (ι 0),.v (ι 1)],.v (.bool ε)]] (cH (aa aY (x+0)) (aa aY (y+1)) 2 d tp):=by kernel_rfl
def aik(x y:Z)(d:ξ)(tp:ae):ad θ fO K 100 gB [.ptr 0 0 0 0,.v (.int .u8 115)] (cH x y 3 d tp) (ag 1)=.out .ret [.af [.agg [.v (ι (-1)),.v (ι 0)],.v (.bool ε)]] (cH (aa aY (x+(-1))) (aa aY (y+0)) 3 d tp):=by kernel_rfl
def aix{b t x y:Z}{d:ξ}{tp:ae}(g:Jr b=ε)(i:0<=t/\t<4)(j: -1000000<=x/\x<=1000000)(k: -1000000<=y/\y<=1000000):aE (ad θ fO K 100 gB [.ptr 0 0 0 0,.v (.int .u8 b)] (cH x y t d tp) (ag 1)) (doR b x y t d tp):=by
 have e:b=117\/b=100\/b=116\/b=101\/b=110\/b=119\/b=115:=by unfold Jr CZ at g;simpa only[po,fm]using g
 have f:t=0\/t=1\/t=2\/t=3:=by omega
 have a:∀z,-1<=z/\z<=1->aa aY (x+z)=x+z:=λz h=>bz
 have c:∀z,-1<=z/\z<=1->aa aY (y+z)=y+z:=λz h=>bz
 have l:∀z:Z,cH z y t d tp=cH z y t d tp:=λ_=>rfl
 rcases e with rfl|rfl|rfl|rfl|rfl|rfl|rfl<;>rcases f with rfl|rfl|rfl|rfl
 ·rw[aip];exact F ⟨rfl,rfl,by rw[show lI 117 0=0 from rfl,show lJ 117 0=0 from rfl,ik,ik];rfl⟩
 ·rw[aiq];exact F ⟨rfl,rfl,by rw[show lI 117 1=0 from rfl,show lJ 117 1=0 from rfl,ik,ik];rfl⟩
 ·rw[air];exact F ⟨rfl,rfl,by rw[show lI 117 2=0 from rfl,show lJ 117 2=0 from rfl,ik,ik];rfl⟩
 ·rw[ais];exact F ⟨rfl,rfl,by rw[show lI 117 3=0 from rfl,show lJ 117 3=0 from rfl,ik,ik];rfl⟩
 ·rw[ah7];exact F ⟨rfl,rfl,by rw[show lI 100 0=0 from rfl,show lJ 100 0=0 from rfl,ik,ik];rfl⟩
 ·rw[ah8];exact F ⟨rfl,rfl,by rw[show lI 100 1=0 from rfl,show lJ 100 1=0 from rfl,ik,ik];rfl⟩
 ·rw[ah9];exact F ⟨rfl,rfl,by rw[show lI 100 2=0 from rfl,show lJ 100 2=0 from rfl,ik,ik];rfl⟩
 ·rw[ah_];exact F ⟨rfl,rfl,by rw[show lI 100 3=0 from rfl,show lJ 100 3=0 from rfl,ik,ik];rfl⟩
 ·rw[ail];exact F ⟨rfl,rfl,by rw[show lI 116 0=0 from rfl,show lJ 116 0=0 from rfl,ik,ik];rfl⟩
 ·rw[aim];exact F ⟨rfl,rfl,by rw[show lI 116 1=0 from rfl,show lJ 116 1=0 from rfl,ik,ik];rfl⟩
 ·rw[ain];exact F ⟨rfl,rfl,by rw[show lI 116 2=0 from rfl,show lJ 116 2=0 from rfl,ik,ik];rfl⟩
 ·rw[aio];exact F ⟨rfl,rfl,by rw[show lI 116 3=0 from rfl,show lJ 116 3=0 from rfl,ik,ik];rfl⟩
 ·rw[ah',a _ (by omega),c _ (by omega)];exact F ⟨rfl,rfl,rfl⟩
 ·rw[aia,a _ (by omega),c _ (by omega)];exact F ⟨rfl,rfl,rfl⟩
 ·rw[aib,a _ (by omega),c _ (by omega)];exact F ⟨rfl,rfl,rfl⟩
 ·rw[aic,a _ (by omega),c _ (by omega)];exact F ⟨rfl,rfl,rfl⟩
 ·rw[aid,a _ (by omega),c _ (by omega)];exact F ⟨rfl,rfl,rfl⟩
 ·rw[aie,a _ (by omega),c _ (by omega)];exact F ⟨rfl,rfl,rfl⟩
 ·rw[aif,a _ (by omega),c _ (by omega)];exact F ⟨rfl,rfl,rfl⟩
 ·rw[aig,a _ (by omega),c _ (by omega)];exact F ⟨rfl,rfl,rfl⟩
 ·rw[ait,a _ (by omega),c _ (by omega)];exact F ⟨rfl,rfl,rfl⟩
 ·rw[aiu,a _ (by omega),c _ (by omega)];exact F ⟨rfl,rfl,rfl⟩
 ·rw[aiv,a _ (by omega),c _ (by omega)];exact F ⟨rfl,rfl,rfl⟩
 ·rw[aiw,a _ (by omega),c _ (by omega)];exact F ⟨rfl,rfl,rfl⟩
 ·rw[aih,a _ (by omega),c _ (by omega)];exact F ⟨rfl,rfl,rfl⟩
 ·rw[aii,a _ (by omega),c _ (by omega)];exact F ⟨rfl,rfl,rfl⟩
 ·rw[aij,a _ (by omega),c _ (by omega)];exact F ⟨rfl,rfl,rfl⟩
 ·rw[aik,a _ (by omega),c _ (by omega)];exact F ⟨rfl,rfl,rfl⟩
def ua(P:O)(p:pI)(d:ξ)(w:ψ):Prop:=w.heap[P]?=γ (.cells #[ι p.x,ι p.y,ι p.t,.bool d] 160 (0,0))
def ard:∀(k:O),k<256->kb (ns k)=ε->Jr k=ε/\∀t:O,t<4->(eX ⟨0,0,t⟩ (ns k)).x=lI k t/\(eX ⟨0,0,t⟩ (ns k)).y=lJ k t/\((eX ⟨0,0,t⟩ (ns k)).t:Z)=DY k t:=by decide+kernel
def arc(x y:Z)(t:O)(b:υ):eX ⟨x,y,t⟩ b=⟨x+(eX ⟨0,0,t⟩ b).x,y+(eX ⟨0,0,t⟩ b).y,(eX ⟨0,0,t⟩ b).t⟩:=by
 unfold eX;cases b==117||b==100 with
 |true=>simp
 |false=>
  cases b==116 with
  |true=>simp
  |false=>simp
def arf{b:υ}(h:kb b=ε)(p:pI)(e:p.t<4):Jr b.toNat=ε/\eX p b=⟨p.x+lI b.toNat p.t,p.y+lJ b.toNat p.t,(DY b.toNat p.t).toNat⟩/\((DY b.toNat p.t).toNat:Z)=DY b.toNat p.t:=by
 obtain⟨f,d⟩:=ard b.toNat b.toNat_lt (by rwa [aeB]);rw[aeB]at d;obtain⟨a,g,c⟩:=d p.t e;refine⟨f,?_,?_⟩
 ·obtain⟨x,y,t⟩:=p
  rw[arc,a,g,<-c];simp
 ·rw[<-c];simp
def agn{p:pI}{b:υ}(u:ua i p q X)(D:a4 (cn X i) X)(c:kb b=ε)(G:p.t<4)(H: -1000000<=p.x/\p.x<=1000000)(I: -1000000<=p.y/\p.y<=1000000):aM θ 148 #[.pointer (γ ⟨i,0,ζ⟩),.int .u8 b.toNat] X λe w'=>∃v L,e=.returned v/\ua i (eX p b) L w'/\Fr (cn X i) X w':=by
 obtain⟨N,Q,R⟩:=arf c p G;have h:i<X.heap.size:=(cC.1 u).1;have f:∀a b,(λa:O=>if a=0 then γ (⟨i,0,4⟩:Bk)else ζ) a=γ b->a=0/\b=⟨i,0,4⟩:=λa b c=>by
  simp only at c;split at c
  ·cases c;exact⟨by assumption,rfl⟩
  ·cases c
 have m:(λa:O=>if a=0 then γ (⟨i,0,4⟩:Bk)else ζ) 0=γ ⟨i,0,4⟩:=rfl;generalize(λa:O=>if a=0 then γ (⟨i,0,4⟩:Bk)else ζ)=z at*;refine(nz (vals:=[.pointer (γ ⟨i,0,ζ⟩),.int .u8 b.toNat]) (M:=cn X i) (ν:=z) akZ mixed enters func148 (de _) (λk S=>.inl S) (aix (b:=b.toNat) (t:=p.t) (x:=p.x) (y:=p.y) (d:=q) (tp:=160) N ⟨by omega,by omega⟩ H I).out ⟨?_,?_,trivial⟩ ⟨λa=>?_,λa j b P n _ _ T U=>?_,λa b _ c=>?_,λa b c=>?_,D⟩ (λa b c=>?_)).mono ?_
 ·simp only[VR]
  exact⟨_,m,rfl⟩
 ·simp only[VR]
 ·match a with
  |0=>exact⟨_,[ι p.x,ι p.y,ι p.t,.bool q],m,rfl,u,rfl,rfl,rfl,rfl,trivial⟩
  |a+1=>trivial
 ·exact aR ((f _ _ T).1.trans (f _ _ U).1.symm) n
 ·rw[(f _ _ c).2];exact .inr rfl
 ·rw[(f _ _ c).2];exact h
 ·rw[(f _ _ c).1];exact oq
 ·rintro e w' ⟨v,av,H2,W,rfl,⟨_,_,rfl⟩,hv,o,r,s,_⟩
  refine⟨v,Zg b.toNat q,rfl,?_,r⟩;have B:=o.br 0;simp only[cH,Bn]at B;obtain⟨bk,l,C,g2,d,g⟩:=B;rw[s _ _ m]at C;cases C
  match l,g with
  |[v1,v2,v3,v4],g=>simp only[aB,VR,aj]at g;obtain⟨rfl,rfl,rfl,rfl⟩:=g;unfold ua;rw[Q];simp only[R];exact d
def uR(x:χ (E υ)):τ:=match x with
 |some T=>.tuple #[.agg #[ι (cW T).x,ι (cW T).y],ι (cW T).t,.bool ε]
 |none=>.tuple #[.agg #[ι 0,ι 0],ι 0,.bool η]
def ET{s T:E υ}(h:jt s=γ T):T.all kb=ε/\T.length<=500:=by
 unfold jt at h;split at h
 ·split at h
  ·rename_i x a
   cases h;exact⟨akg a,V9 a⟩
  ·cases h
 ·cases h
def acs{x y u v:τ}(h:X.heap[i]?=γ (.cells #[x,y] N (0,0))):((X.setCell ⟨i,0,ζ⟩ u).setCell ⟨i,1,ζ⟩ v).heap[i]?=γ (.cells #[u,v] N (0,0)):=by
 have a:(X.setCell ⟨i,0,ζ⟩ u).heap[i]?=γ (.cells #[u,y] N (0,0)):=by simp[mL,Ba,h]
 generalize X.setCell ⟨i,0,ζ⟩ u=W at*;simp[mL,Ba,a]
def E3{x y:τ}(h:X.heap[i]?=γ (.cells #[x,y] N (0,0))):X.cell? ⟨i,0,ζ⟩=γ x/\X.cell? ⟨i,1,ζ⟩=γ y/\X.frozen? ⟨i,0,ζ⟩=η/\X.frozen? ⟨i,1,ζ⟩=η:=
 ⟨by rw[hO X i 0 _ _ (0,0) h];rfl,by rw[hO X i 1 _ _ (0,0) h];rfl,tO X i 0 _ _ h,tO X i 1 _ _ h⟩
def acr{u v:τ}{w a:ψ}(f:Fr (au a) a w)(c:a.heap.size<=i):Fr (au a) a ((w.setCell ⟨i,0,ζ⟩ u).setCell ⟨i,1,ζ⟩ v):=by refine f.trans ⟨rfl,rfl,rfl,by simp[mL],λk _ b=>?_⟩;have b:k<a.heap.size:=gi.1 b;rw[kM _ _ _ _ (show k≠i by omega),kM _ _ _ _ (show k≠i by omega)]
def agI(s:ρ)(Q:a4 (au X) X):aM θ 81 #[.string s] X (gm X (uR (jt s.data.toList))):=by
 have mixed:=mixed;obtain⟨W0,A⟩:∃W0,X.alloc (.cells #[ι 0,ι 0] 95)=W0:=⟨_,rfl⟩;have f0:Fr (au X) X W0:=A▸(eZ (fJ X _ ζ) λk e=>by cases e);have B:W0.heap[X.heap.size]?=γ (.cells #[ι 0,ι 0] 95 (0,0)):=A▸oz _ _;have f:=agP s (Q.fw f0);have n:=λT=>ET (s:=s.data.toList) (T:=T)
 generalize jt s.data.toList=q at*;cases q with
 |none=>
  clear n Q;rw[show Q0 ζ=.tuple #[.string ⟨#[]⟩,.bool η]from rfl]at f
  go_enter func81,ntmps81
  go_wp2_with fail
  refine f.mono ?_;rintro e p ⟨rfl,L⟩;have y:=(L.block _ (cC.1 B).1 (gi.2 (cC.1 B).1)).trans B;obtain⟨b1,b2,b3,b4⟩:=E3 y;obtain⟨r1,r2,_,_⟩:=E3 (acs y (u:=ι 0) (v:=ι 0));have z:=acr (dr f0 L) (aQ X.heap.size) (u:=ι 0) (v:=ι 0);clear f
  go_wp2_with fail
  refine gl (v:=.tuple #[.agg #[ι 0,ι 0],ι 0,.bool η]) ?_ rfl ⟨rfl,z⟩;simp[results,results81,go_sem,r1,r2]
 |some T=>
  obtain⟨hT,hT5⟩:=n T rfl;clear n;rw[show Q0 (γ T)=.tuple #[.string ⟨T.toArray⟩,.bool ε]from rfl]at f;have S:(ah T.toArray).size=T.length:=m6 T;have t9:θ.underlying 9=γ .string:=by kernel_rfl
  have U:θ.underlying 22=γ (.slice 5):=by kernel_rfl
  have t5:θ.underlying 5=γ (.int .u8):=by kernel_rfl
  go_enter func81,ntmps81
  go_wp2_with fail
  refine f.mono ?_;rintro e p ⟨rfl,L⟩;have y:=(L.block _ (cC.1 B).1 (gi.2 (cC.1 B).1)).trans B;clear f;obtain⟨g,o⟩:∃g,g=p.alloc (.cells #[ι 0,ι 0,ι 0,.bool η] 160):=⟨_,rfl⟩;have f2:Fr (au p) p g:=o▸(eZ (fJ p _ ζ) λk e=>by cases e);have p2:ua p.heap.size o8 η g:=o▸oz _ _;have z2:g.heap.size=p.heap.size+1:=by rw[o];simp
  have C:=aze g 9 22 5 ⟨T.toArray⟩ t9 U t5;have f3:Fr (au g) g (xZ g 5 ⟨T.toArray⟩):=Wg g _ _;have l:∀j,j<T.length->(xZ g 5 ⟨T.toArray⟩).cell? ⟨g.heap.size,j,ζ⟩=γ (.int .u8 (T.getD j 0).toNat):=λj hj=>Lib.bytesWorld_cell g _ ⟨T.toArray⟩ j (by rw[S];exact hj)
  have hG:g.heap.size<(xZ g 5 ⟨T.toArray⟩).heap.size:=by rw[Lib.bytesWorld_size];omega
  rw[S]at C;generalize xZ g 5 ⟨T.toArray⟩=W at*;generalize grownCap g T.length 0 5=cap at*;have pP:=(f3.block _ (by omega) (gi.2 (by omega:p.heap.size<g.heap.size))).trans p2;have aA:=((dr f2 f3).block _ (eN (cC.1 y).1 (aQ _)) (gi.2 (cC.1 y).1)).trans y;have fW:=dr (dr (dr f0 L) f2) f3;have hAP:X.heap.size<p.heap.size:=(cC.1 y).1;have u22:=fL U;generalize hGe:g.heap.size=G at*;generalize hPe:p.heap.size=P at*;clear f0 L f2 f3 B y p2
  go_wp2_with fail
  rw[<-o,C];have hPG:P<G:=by omega
  clear C o A hGe hPe z2
  go_wp2
  go_loopw [23] (λi wr=>∃(k:O)(d:ξ),k<=T.length/\i=.int .i64 k/\ua P ((T.take k).foldl eX o8) d wr/\Fr (au X) X wr/\wr.heap[X.heap.size]?=γ (.cells #[ι 0,ι 0] 95 (0,0))/\G<wr.heap.size/\∀j,j<T.length->wr.cell? ⟨G,j,ζ⟩=γ (.int .u8 (T.getD j 0).toNat)) (λi _=>T.length-(intOf i).toNat)
  case atStart=>exact⟨0,η,ej _,rfl,pP,fW,aA,hG,l⟩
  case round=>
   obtain⟨k,d,hk,rfl,D,z,M,hg,hc⟩:=hrel;by_cases r:k<T.length
   ·have hck:=hc k r
    have hb:T.getD k 0=T[k]:=by simp[r]
    have f:kb T[k]=ε:=bT.1 hT _ (ki r);have w:(T.take (k+1)).foldl eX o8=eX ((T.take k).foldl eX o8) T[k]:=by rw[yf r,Bl];rfl
    have H:=PP (T.take k) o8 0 (by decide);rw[pz]at H;have hdo:=agn D (ab4 Q z (by omega)) f H.2.2 (by omega) (by omega);rw[hb]at hck;have hRP:∃c fz,wr.heap[P]?=γ (.cells c 160 fz):=⟨_,_,D⟩;have hPz:P<wr.heap.size:=(cC.1 D).1;have hAz:X.heap.size<wr.heap.size:=(cC.1 M).1;have next:∀t d',ua P (eX ((T.take k).foldl eX o8) T[k]) d' t->Fr (cn wr P) wr t->∃(k':O)(d:ξ),k'<=T.length/\jc .i64 ((k:Z)+1)=.int .i64 k'/\ua P ((T.take k').foldl eX o8) d t/\Fr (au X) X t/\t.heap[X.heap.size]?=γ (.cells #[ι 0,ι 0] 95 (0,0))/\G<t.heap.size/\∀j,j<T.length->t.cell? ⟨G,j,ζ⟩=γ (.int .u8 (T.getD j 0).toNat):=λt d' h1 N=>by refine⟨k+1,d',by omega,by simp,w▸h1,z.trans (N.mono λi _ h=>vy h (λh=>cF z.size h) λh=>by omega),(N.block _ hAz λh=>vy h (λh=>by omega) λh=>by omega).trans M,eN hg N.size,λj hj=>?_⟩;exact(oB (a:=⟨G,j,ζ⟩) (N.block G hg λh=>vy h (λh=>by omega) λh=>by omega)).trans (hc j hj)
    have hki:(k:Z)<T.length:=by omega
    have hTi:(T.length:Z)<=500:=by omega
    generalize T[k]=b at*;generalize(T.take k).foldl eX o8=I at*;clear hc f w H hb hT l D z M hg hRP aA pP fW Q hAz hPz hG hAP hPG
    go_wp2_with (go_at_call 148;refine hdo.mono ?_;rintro e t ⟨v,d',rfl,h1,N⟩)
    exact⟨next _ _ h1 N,by simp[intOf];omega⟩
   ·have hkn:k=T.length:=by omega
    subst hkn;rw[Bp]at D;have x:ua P (cW T) d wr.drew:=D;have ha2:wr.drew.heap[X.heap.size]?=γ (.cells #[ι 0,ι 0] 95 (0,0)):=M;have c0:wr.drew.cell? ⟨P,0,ζ⟩=γ (ι (cW T).x):=by rw[hO wr.drew P 0 _ _ (0,0) x];rfl
    have c1:wr.drew.cell? ⟨P,1,ζ⟩=γ (ι (cW T).y):=by rw[hO wr.drew P 1 _ _ (0,0) x];rfl
    have c2:wr.drew.cell? ⟨P,2,ζ⟩=γ (ι (cW T).t):=by rw[hO wr.drew P 2 _ _ (0,0) x];rfl
    obtain⟨b1,b2,b3,b4⟩:=E3 ha2;obtain⟨r1,r2,_,_⟩:=E3 (acs M (u:=ι (cW T).x) (v:=ι (cW T).y));have m:=acr z (aQ X.heap.size) (u:=ι (cW T).x) (v:=ι (cW T).y);have fr4:Fr (au X) X ((wr.setCell ⟨X.heap.size,0,ζ⟩ (ι (cW T).x)).setCell ⟨X.heap.size,1,ζ⟩ (ι (cW T).y)).drew:=⟨m.os,m.tape,m.output,m.size,m.block⟩;have hAPn:X.heap.size≠P:=by omega
    have hPAn:P≠X.heap.size:=by omega
    have c0':wr.cell? ⟨P,0,ζ⟩=γ (ι (cW T).x):=c0;have c1':wr.cell? ⟨P,1,ζ⟩=γ (ι (cW T).y):=c1;have c2':wr.cell? ⟨P,2,ζ⟩=γ (ι (cW T).t):=c2;have b1':wr.cell? ⟨X.heap.size,0,ζ⟩=γ (ι 0):=b1;have b2':wr.cell? ⟨X.heap.size,1,ζ⟩=γ (ι 0):=b2;have b3':wr.frozen? ⟨X.heap.size,0,ζ⟩=η:=b3;have b4':wr.frozen? ⟨X.heap.size,1,ζ⟩=η:=b4;clear hc hT l D z M hg aA pP fW Q x ha2 m hG;have hpe:Ending.returned (.tuple #[.agg #[ι (cW T).x,ι (cW T).y],ι (cW T).t,.bool ε])=.returned (uR (γ T)):=rfl;generalize uR (γ T)=R at*;generalize cW T=I at*
    go_wp2_with fail
    go_region_held3 (λw'=>w'.cell? ⟨P,0,ζ⟩=γ (ι I.x)/\w'.cell? ⟨P,1,ζ⟩=γ (ι I.y)/\w'.cell? ⟨P,2,ζ⟩=γ (ι I.t)) (go_keep) (fail)
    go_wp2_with fail
    refine gl (v:=.tuple #[.agg #[ι I.x,ι I.y],ι I.t,.bool ε]) ?_ rfl ⟨hpe,fr4⟩;simp[results,results81,go_sem,r1,r2]
def W1(g:ρ->O->ρ)(n:ρ->O)(k:ρ->ξ)(a:O->(O->E τ)->en)(b:O->(O->E τ)->ξ):aG:=
 ext (ext g0 177 (ai [.val] (Ll g n k))) 178 (ev [] (Lt a b))
def axA(g:ρ->O->ρ)(n:ρ->O)(k:ρ->ξ)(b:O->(O->E τ)->en)(c:O->(O->E τ)->ξ)(s:ρ):let a:=(b (n s) λj=>[b9 (g s j)]);ad θ (W1 g n k b c) K 100 f101 [.v (.string s)] [] dR
 =bif !k s then rO [AV.af [AV.agg [vI 0,vI 0],vI 0,vB η]] []else Ξ [Ψ (n s) (n s),c (n s) λj=>[b9 (g s j)]] (rO [AV.af [AV.agg [vI (en.x a),vI (en.y a)],vI (en.t a),vB ε]] []):=by intros;kernel_rfl
def arh(s:ρ):jt s.data.toList=bif (jq s).r.isSome then γ (jq s).T else ζ:=by
 have a:s.data.toList.length=s.size:=by rw[lm];rfl
 unfold jt jq;rw[a,GH];by_cases h:s.size<=400
 ·rw[aU h,aU h,akd λ_=>Mg _ _]
  cases(dP η (cD 32 s.data.toList) []).r with
  |none=>rfl
  |some r=>rfl
 ·rw[bI h,bI h]
  rfl
def auy(T:E υ):cY (strs (λj=>[b9 (c8 T j)]) T.length)=T.map ([·]):=by
 apply R'
 ·simp[strs]
 ·intro i b a
  simp[strs,fU,c8,cX,show i<T.length by simpa using a]
def aoE(h:l.all kb=ε)(a:l.length<=500):xd l.length (λj=>[b9 (c8 l j)])=ε/\mU l.length (λj=>[b9 (c8 l j)])=l:=by
 unfold xd mU;rw[auy];refine⟨?_,?_⟩
 ·rw[show mO l.length (λj=>[b9 (c8 l j)])=ε from bT.2 λ_ _=>rfl,ex,show Δ l.length 999=ε from by rw[bl];omega,jb,Fl]
  exact h
 ·induction l with
  |nil=>rfl
  |cons b l c=>rw[eG,Bj,c (by rw[gA,aP]at h;exact h.2) (by rw[bZ]at a;omega)];rfl
def F4(pv:ρ->τ):E τ->χ (τ×E ξ)
 |[.string s]=>γ (pv s,[])
 |_=>ζ
def Ad(s:ρ):τ:=uR (jt s.data.toList)
def aqr:ak θ 101 (aW (F4 Ad)):=by
 refine et (n:=100) (Γ:=W1 xg s8 s7 vd xd) (az (az ba aqb) aqq) func101 rfl λq x r a t=>?_
 unfold F4 at a;split at a
 ·rename_i s
  simp only[aC,cI]at a;obtain⟨rfl,rfl⟩:=a;have e:=axA xg s8 s7 vd xd s;simp only[eG,kQ];rw[e]
  suffices h:aE _ (oI (Ad s))from⟨h.out⟩
  have b:=arh s;refine aD (λc=>?_) λc=>?_
  ·have c:(jq s).r.isSome=η:=by simpa[s7]using c
   rw[c,be]at b;unfold Ad;rw[b];exact F ⟨_,rfl,rfl⟩
  ·have c:(jq s).r.isSome=ε:=by simpa[s7]using c
   rw[c,a6]at b;obtain⟨f,g⟩:=ET b;obtain⟨i,k⟩:=aoE f g;have d:vd (s8 s) (λj=>[b9 (xg s j)])=lX fN (jq s).T:=by unfold vd;rw[show mU (s8 s) (λj=>[b9 (xg s j)])=(jq s).T from k]
   obtain⟨l,m,o⟩:=aa' fN (jq s).T xn o8 0 (by omega) (by decide) ⟨rfl,rfl,rfl⟩;rw[d];refine aq (by simp only[Ω,ax,aj];exact⟨mG _,i⟩) ?_;rw[show(lX fN (jq s).T).x=(cW (jq s).T).x from l,show(lX fN (jq s).T).y=(cW (jq s).T).y from m,show(lX fN (jq s).T).t=((cW (jq s).T).t:Z)from o];unfold Ad;rw[b];exact F ⟨_,rfl,rfl⟩
 ·cases a
def s_(L:E Wh)(r:E υ):χ (E Wh×E υ):=(jt r).map λT=>(L,fV [(cW T).x,(cW T).y,((cW T).t:Z)])
def agR(x y z:Z)(w:ψ)(b:a4 (au w) w)(h:∀n∈ [x,y,z],-9223372036854775808<=n/\n<=9223372036854775807):aM θ 71 #[.slice (γ ⟨w.heap.size,0,ζ⟩) 3 3] (w.alloc (.cells #[ι x,ι y,ι z] 3)) (gm (w.alloc (.cells #[ι x,ι y,ι z] 3)) (.string ⟨(fV [x,y,z]).toArray⟩)):=by
 have f:Fr (au w) w (w.alloc (.cells #[ι x,ι y,ι z] 3)):=eZ (fJ w _ ζ) λk e=>by cases e
 have:=Gv [x,y,z] w.heap.size 0 3 _ (b.fw f) (by simp) (aQ _) (by simp) h (λj a=>by
  have a:j=0\/j=1\/j=2:=by simp at a;omega
  unfold oA;simp only;rw[oz];rcases a with rfl|rfl|rfl<;>rfl)
 exact this
def ahj:jC 44 s_:=λ{D L} s {w} p r z C=>by
 have mixed:=mixed;have n:=agI s r.nw;have A:=λa (f:Fr (au w) w a)=>dj.die (L:=L) p f
 have i:=λa (t:E υ)(f:Fr (au w) w a)=>dj.Ay (t:=t) p z f
 have g:=λT=>ET (s:=s.data.toList) (T:=T)
 have h:=r.nw;unfold s_;clear p r z C;generalize jt s.data.toList=q at*;cases q with
 |none=>
  clear i g h;rw[show uR ζ=.tuple #[.agg #[ι 0,ι 0],ι 0,.bool η]from rfl]at n
  go_enter func44,ntmps44
  go_wp2_with (first|(go_at_call 81;refine n.mono ?_;rintro e a ⟨rfl,d⟩)|(go_at_call 70;refine(uM _).mono ?_;rintro e j ⟨rfl,rfl⟩))
  exact⟨rfl,A _ (dr d (eZ (fJ a _ ζ) λk e=>by cases e))⟩
 |some T=>
  have G:=PQ T;have H:=(g T rfl).2;rw[show uR (γ T)=.tuple #[.agg #[ι (cW T).x,ι (cW T).y],ι (cW T).t,.bool ε]from rfl]at n;clear A g
  replace i:=λa f=>i a (fV [(cW T).x,(cW T).y,((cW T).t:Z)]) f
  rw[Bw];have B:=λ(W:ψ)(f:Fr (au w) w W)=>agR (cW T).x (cW T).y ((cW T).t:Z) W (h.fw f) (by simp only[dE,iX,oC,forall_eq_or_imp,forall_eq];omega)
  generalize fV [(cW T).x,(cW T).y,((cW T).t:Z)]=u at*;generalize(cW T).x=b at*;generalize(cW T).y=c at*;generalize((cW T).t:Z)=o at*;have v:∀a j,Fr (au w) w a->Fr (au ((a.alloc (.cells #[ι b,ι c] 95)).alloc (.cells #[ι b,ι c,ι o] 3))) ((a.alloc (.cells #[ι b,ι c] 95)).alloc (.cells #[ι b,ι c,ι o] 3)) j->dj D L (γ (L,u)) w (.returned (.string ⟨u.toArray⟩)) j:=λa j d I=>i _ (dr (dr (dr d (eZ (fJ a _ ζ) λk e=>by cases e)) (eZ (fJ _ _ ζ) λk e=>by cases e)) I)
  have l:∀a,Fr (au w) w a->Fr (au w) w (a.alloc (.cells #[ι b,ι c] 95)):=λa d=>dr d (eZ (fJ a _ ζ) λk e=>by cases e)
  have m:∀a:ψ,(a.alloc (.cells #[ι b,ι c] 95)).heap[a.heap.size]?=γ (.cells #[ι b,ι c] 95 (0,0)):=λa=>oz a _
  have x:=λa=>E3 (m a)
  clear m;have y:∀a:ψ,Fr (au w) w a->aM θ 71 #[.slice (γ ⟨a.heap.size+1,0,ζ⟩) 3 3] ((a.alloc (.cells #[ι b,ι c] 95)).alloc (.cells #[ι b,ι c,ι o] 3)) (gm ((a.alloc (.cells #[ι b,ι c] 95)).alloc (.cells #[ι b,ι c,ι o] 3)) (.string ⟨u.toArray⟩)):=λa d=>by have:=B _ (l a d);rw[show(a.alloc (.cells #[ι b,ι c] 95)).heap.size=a.heap.size+1 from Array.size_push _]at this;exact this
  clear i h G H B l
  go_enter func44,ntmps44
  go_wp2_with (first|(go_at_call 81;refine n.mono ?_;rintro e a ⟨rfl,d⟩;obtain⟨N,P,Q,R⟩:=x a)|(go_at_call 70;refine(uN _).mono ?_;rintro e j ⟨rfl,rfl⟩))
  refine(y a d).mono ?_;rintro e S ⟨rfl,M⟩
  go_wp2_with fail
  go_ret
  exact v _ _ d M
def F5(a b c:ρ->Z)(d:ρ->ξ):E τ->χ (τ×E ξ)
 |[.string s]=>γ (.tuple ⟨[.agg ⟨[ι (a s),ι (b s)]⟩,ι (c s),.bool (d s)]⟩,[])
 |_=>ζ
def Ed(s:ρ):pI:=match jt s.data.toList with
 |some T=>cW T
 |none=>o8
def Ag(s:ρ):Z:=(Ed s).x
def Ah(s:ρ):Z:=(Ed s).y
def Af(s:ρ):Z:=((Ed s).t:Z)
def Ae(s:ρ):ξ:=(jt s.data.toList).isSome
def arb(s:ρ):uR (jt s.data.toList)=.tuple ⟨[.agg ⟨[ι (Ag s),ι (Ah s)]⟩,ι (Af s),.bool (Ae s)]⟩:=by
 unfold Ag Ah Af Ae Ed;cases jt s.data.toList with
 |none=>rfl
 |some T=>rfl
def ae0:F5 Ag Ah Af Ae=F4 Ad:=by
 funext a
 unfold F5 F4 Ad;split
 ·rename_i s
  show γ _=γ (uR (jt s.data.toList),[])
  rw[arb]
 ·rename_i h
  first
  |rfl
  |(split
    ·exact aR rfl (h _)
    ·rfl)
def aqh:ak θ 101 (aW (F5 Ag Ah Af Ae)):=by rw[ae0];exact aqr
abbrev wAt:ρ:=⟨#[97,116]⟩
abbrev acG:ρ:=⟨#[103,114,105,100]⟩
abbrev acD:ρ:=⟨#[97,114,101,97]⟩
abbrev acL:ρ:=⟨#[112,108,111,116]⟩
def Ni(a:ρ->O)(b:Z->ρ->ξ)(c:ρ->O->Z)(d:Z->ρ)(p:Z->ξ):aG:=ext (ext g0 95 (ai [.val,.val] (BO a b c))) 21 (aW (oR d p))
def Nj(a:ρ->O)(b:Z->ρ->ξ)(c:ρ->O->Z)(d:Z->ρ)(p:Z->ξ)(e:(O->O->Z)->Z->O->O->Z)(f:(O->O->Z)->Z->O->ξ):aG:=ext (Ni a b c d p) 96 (ai dl (qB e f))
def Wu(a:ρ->O)(b:Z->ρ->ξ)(c:ρ->O->Z)(d:Z->ρ)(p:Z->ξ)(e:(O->O->Z)->Z->O->O->Z)(f:(O->O->Z)->Z->O->ξ)(R M:(O->Z)->O)(g:(O->Z)->ξ)(h i:O->O->Z->Z)(gk:O->O->Z->ξ):aG:=ext (ext (Nj a b c d p e f) 97 (ai [.val] (vS R M g))) 98 (aW (yA h i gk))
def Wv(a:ρ->O)(b:Z->ρ->ξ)(c:ρ->O->Z)(d:Z->ρ)(p:Z->ξ)(e:(O->O->Z)->O->Z->ξ)(rt:(O->O->Z)->O->Z->E Cy)(f:(O->O->Z)->O->O->Z)(g:(O->O->Z)->O->ξ):aG:=ext (ext (Ni a b c d p) 99 (ai dl (Lu e rt))) 100 (ai nR (yw f g))
def Ww(a:Z->ρ)(p:Z->ξ)(b c d:ρ->Z)(e:ρ->ξ):aG:=ext (ext g0 21 (aW (oR a p))) 101 (aW (F5 b c d e))
def awh(w:ρ->O)(C:Z->ρ->ξ)(D:ρ->O->Z)(a:Z->ρ)(p:Z->ξ)(c:(O->O->Z)->Z->O->O->Z)(G:(O->O->Z)->Z->O->ξ)(s:ρ)(n:O)(f:Θ):let d:=(ο λq=>J f (0+q));let b:=(ah (ap [(32:υ)]));let e:=(D s 0);let H:=[AV.v (.string (ah (ap [(110:υ),(111:υ),(10:υ)])))];let g:=[AB.row η n 9 (J f) 123];let h:=(c d e n 5);let i:=(c d e n 2);let j:=(c d e n 4);let k:=(c d e n 6);let l:=(c d e n 0);let m:=(c d e n 3);let o:=(c d e n 7);let r:=(c d e n 1);let x:=(aI (ah (ap [])) (a l));let y:=(aI (aI x b) (a r));let z:=(aI (aI y b) (a i));let u:=(aI (aI z b) (a m));let I:=(aI u b);let t:=(aI I (a j));let A:=(aI (aI t b) (a h));let B:=(aI (aI A b) (a k));let v:=(aI (aI B b) (a o));ad θ (Nj w C D a p c G) K 100 Km [.sl 0 9 0 0 n ζ,.v (.string wAt),.v (.string s)] [.row η n 9 (J f) 123] (ag 1)
 =Ξ [ω (ay s) 4294967281] (bif !C (1:Z) s then rO H g else Ξ [κ ((0:Z)<(↑(w s):Z)),κ (0<w s),Δ (0+n) n,aF n λq=>J f (0+q),κ (n<=274877906944)] (bif !G d e n then rO H g else Ξ [p l,Δ (0+ay (a l)) 9223372036854775807,Δ (ay x+1) 9223372036854775807,p r,Δ (ay (aI x b)+ay (a r)) 9223372036854775807,Δ (ay y+1) 9223372036854775807,p i,Δ (ay (aI y b)+ay (a i)) 9223372036854775807,Δ (ay z+1) 9223372036854775807,p m,Δ (ay (aI z b)+ay (a m)) 9223372036854775807,Δ (ay u+1) 9223372036854775807,p j,Δ (ay I+ay (a j)) 9223372036854775807,Δ (ay t+1) 9223372036854775807,p h,Δ (ay (aI t b)+ay (a h)) 9223372036854775807,Δ (ay A+1) 9223372036854775807,p k,Δ (ay (aI A b)+ay (a k)) 9223372036854775807,Δ (ay B+1) 9223372036854775807,p o,Δ (ay (aI B b)+ay (a o)) 9223372036854775807,Δ (ay v+1) 9223372036854775807] (rO [AV.v (.string (aI v (ah (ap [(10:υ)]))))] g))):=by intros;kernel_rfl
def awi(d:ρ->O)(k:Z->ρ->ξ)(b:ρ->O->Z)(c:Z->ρ)(p:Z->ξ)(l:(O->O->Z)->Z->O->O->Z)(m:(O->O->Z)->Z->O->ξ)(R M:(O->Z)->O)(o:(O->Z)->ξ)(r t:O->O->Z->Z)(gk:O->O->Z->ξ)(s:ρ)(n:O)(f:Θ):let g:=[AV.v (.string (ah (ap [(110:υ),(111:υ),(10:υ)])))];let e:=[AB.row η n 9 (J f) 123];let u:=(ο λq=>J f (0+q));let a:=(w8 (l u (b s 0) n));let h:=(t (R a) (M a) (b s 1));let i:=(r (R a) (M a) (b s 1));let v:=(aI (ah (ap [])) (c i));let j:=(aI v (ah (ap [(32:υ)])));ad θ (Wu d k b c p l m R M o r t gk) K 100 Km [.sl 0 9 0 0 n ζ,.v (.string acG),.v (.string s)] [.row η n 9 (J f) 123] (ag 1)
 =Ξ [ω (ay s) 4294967281] (bif !k (2:Z) s then rO g e else Ξ [κ ((0:Z)<(↑(d s):Z)),κ (0<d s),Δ (0+n) n,aF n λq=>J f (0+q),κ (n<=274877906944),κ ((1:Z)<(↑(d s):Z)),κ (1<d s)] (bif m u (b s 0) n then bif o a then bif !gk (R a) (M a) (b s 1)then rO g e else Ξ [p i,Δ (0+ay (c i)) 9223372036854775807,Δ (ay v+1) 9223372036854775807,p h,Δ (ay j+ay (c h)) 9223372036854775807,Δ (ay (aI j (c h))+1) 9223372036854775807] (rO [AV.v (.string (aI (aI j (c h)) (ah (ap [(10:υ)]))))] e)else rO g e else rO g e)):=by intros;kernel_rfl
def awj(r:ρ->O)(x:Z->ρ->ξ)(t:ρ->O->Z)(a:Z->ρ)(p:Z->ξ)(y:(O->O->Z)->O->Z->ξ)(rt:(O->O->Z)->O->Z->E Cy)(h:(O->O->Z)->O->O->Z)(z:(O->O->Z)->O->ξ)(s:ρ)(n:O)(f:Θ):let i:=(ah (ap [(32:υ)]));let u:=[AV.v (.string (ah (ap [(110:υ),(111:υ),(10:υ)])))];let m:=[AB.row η n 9 (J f) 123];let j:=(ο λq=>J f (0+q));let o:=(rt j n (t s 0));let k:=(bi (cO (ks o)));let b:=(ce o);let c:=(h k b 2);let d:=(h k b 3);let e:=(h k b 0);let g:=(h k b 1);let v:=(aI (ah (ap [])) (a e));let l:=(aI (aI v i) (a g));let A:=(aI l i);let w:=(aI A (a c));let B:=(aI (aI w i) (a d));ad θ (Wv r x t a p y rt h z) K 100 Km [.sl 0 9 0 0 n ζ,.v (.string acD),.v (.string s)] [.row η n 9 (J f) 123] (ag 1)
 =Ξ [ω (ay s) 4294967281] (bif !x (1:Z) s then rO u m else Ξ [κ ((0:Z)<(↑(r s):Z)),κ (0<r s),Δ (0+n) n,aF n λq=>J f (0+q),κ (n<=274877906944),Δ b b,ip b (cO (ks o)),κ (ce o<=274877906944)] (bif y j n (t s 0)then bif !z k b then rO u m else Ξ [p e,Δ (0+ay (a e)) 9223372036854775807,Δ (ay v+1) 9223372036854775807,p g,Δ (ay (aI v i)+ay (a g)) 9223372036854775807,Δ (ay l+1) 9223372036854775807,p c,Δ (ay A+ay (a c)) 9223372036854775807,Δ (ay w+1) 9223372036854775807,p d,Δ (ay (aI w i)+ay (a d)) 9223372036854775807,Δ (ay B+1) 9223372036854775807] (rO [AV.v (.string (aI B (ah (ap [(10:υ)]))))] m)else rO u m)):=by intros;kernel_rfl
def awk(a:Z->ρ)(p:Z->ξ)(b c d:ρ->Z)(e:ρ->ξ)(s:ρ)(n:O)(f:Θ):let g:=(aI (ah (ap [])) (a (b s)));let h:=(ah (ap [(32:υ)]));let i:=[AB.row η n 9 (J f) 123];let j:=(aI g h);let k:=(aI j (a (c s)));let l:=(aI k h);let m:=(aI l (a (d s)));ad θ (Ww a p b c d e) K 100 Km [.sl 0 9 0 0 n ζ,.v (.string acL),.v (.string s)] [.row η n 9 (J f) 123] (ag 1)
 =bif !e s then rO [AV.v (.string (ah (ap [(110:υ),(111:υ),(10:υ)])))] i else Ξ [p (b s),Δ (0+ay (a (b s))) 9223372036854775807,Δ (ay g+1) 9223372036854775807,p (c s),Δ (ay j+ay (a (c s))) 9223372036854775807,Δ (ay k+1) 9223372036854775807,p (d s),Δ (ay l+ay (a (d s))) 9223372036854775807,Δ (ay m+1) 9223372036854775807] (rO [AV.v (.string (aI m (ah (ap [(10:υ)]))))] i):=by intros;kernel_rfl
def pZ(a:Z->Z->Z->ξ->E Wh->ξ)(b:Z->Z->Z->ξ->E Wh->E Wh):aG:=ext nH 153 (ai O8 (K5 a b))
def CX:aK θ (pZ hP ga):=az qT apv
def awR(c:Z->Z->Z->ξ->E Wh->ξ)(d:Z->Z->Z->ξ->E Wh->E Wh)(m:O)(f:Θ)(x:Z):let e:=(V (ο λq=>J f (0+q)) m);let g:=AB.row η m 9 (J f) 123;let a:=(0:Z);let b:=(d x a a η e);ad θ (pZ c d) K 100 f162 [.sl 0 9 0 0 m ζ,.v (ι x)] [.row η m 9 (J f) 123] (ag 1)
 =bif !aH x (-20:Z) (20:Z)then rO [AV.af [AV.own 1 0,vB η]] [g,AB.row ε 0 9 (λ_=>[]) 123]else Ξ [Δ (0+m) m,aF m λq=>J f (0+q),κ (m<=274877906944)] (rO [AV.af [AV.own 1 (ce b),AV.v (.bool (c x a a η e))]] [g,AB.row ε (ce b) 9 (J (Y b)) 123]):=by intros;kernel_rfl
def tX(a:Z->E Wh->ξ)(tl:Z->E Wh->E Wh):E SA->χ FR
 |[.row m g,.v (.int .i64 x)]=>γ {val:=.af [.own 0 (tl x (V (ο g) m)).length,.v (.bool (a x (V (ο g) m)))],new:=[.row ε (tl x (V (ο g) m)).length 9 (J (Y (tl x (V (ο g) m)))) 123],aw:=[aF m g,κ (m<=2^38)]}
 |_=>ζ
def apx:ak θ 162 (ai dl (tX yF tF)):=by
 refine ca CX func162 rfl λi l d h=>?_
 unfold tX at d;split at d
 ·rename_i m g x
  cases d;simp only[Ω]at h;obtain⟨e,k,_⟩:=h;have n:=aV k;refine⟨[.row η m 9 (J (ο g)) 123],K,100,.cons (ab.row λj a=>a7 e j a) .nil,de _,?_⟩;show aE (ad θ (pZ hP ga) K 100 f162 [.sl 0 9 0 0 m ζ,.v (ι x)] [.row η m 9 (J (ο g)) 123] (ag 1)) _
  rw[awR];simp only[cz,cZ];refine aD (λq=>?_) λq=>?_
  ·have b:aH x (-20) 20=η:=by simpa using q
   have c:tF x (V (ο g) m)=[]:=by rw[tF,b];rfl
   have f:yF x (V (ο g) m)=η:=by rw[yF,b];rfl
   refine F ⟨_,rfl,?_,.cons (ab.row λj a=>(a7 e j a).symm) ?_⟩
   ·rw[c,f]
    rfl
   ·show Φ _ [.row ε (tF x (V (ο g) m)).length 9 (J (Y (tF x (V (ο g) m)))) 123]
    rw[c];exact .cons (ab.row λj a=>aR a (dh _)) .nil
  ·have b:aH x (-20) 20=ε:=by simpa using q
   have c:tF x (V (ο g) m)=ga x 0 0 η (V (ο g) m):=by rw[tF,b];rfl
   have f:yF x (V (ο g) m)=hP x 0 0 η (V (ο g) m):=by rw[yF,b];rfl
   refine fu (F ⟨_,rfl,?_,.cons (ab.row λj a=>(a7 e j a).symm) ?_⟩)
   ·rw[c,f]
    rfl
   ·show Φ _ [.row ε (tF x (V (ο g) m)).length 9 (J (Y (tF x (V (ο g) m)))) 123]
    rw[c];exact Φ.refl _
 ·cases d
def axD(b:E Wh->ξ)(e:E Wh->E Wh)(c:E Wh->ξ)(m:O)(f:Θ)(n:O)(h:Θ):let a:=(0+m);let i:=[AV.af [AV.own 2 0,vB η]];let d:=(0+m+n);let j:=AB.row η m 9 (J f) 123;let k:=AB.row η n 9 (J h) 123;let g:=(V (ο λq=>[ι (bif ω q a then f (0+(q-0)) 0 else h (0+(q-a)) 0),ι (bif ω q a then f (0+(q-0)) 1 else h (0+(q-a)) 1),ι (bif ω q a then f (0+(q-0)) 2 else h (0+(q-a)) 2),ι (bif ω q a then f (0+(q-0)) 3 else h (0+(q-a)) 3),ι (bif ω q a then f (0+(q-0)) 4 else h (0+(q-a)) 4),ι (bif ω q a then f (0+(q-0)) 5 else h (0+(q-a)) 5),ι (bif ω q a then f (0+(q-0)) 6 else h (0+(q-a)) 6),ι (bif ω q a then f (0+(q-0)) 7 else h (0+(q-a)) 7),ι (bif ω q a then f (0+(q-0)) 8 else h (0+(q-a)) 8)]) d);let l:=[j,k,AB.row ε 0 9 (λ_=>[]) 123];let o:=(ce (e g));ad θ (sC b e c) K 100 f91 [.sl 0 9 0 0 m ζ,.sl 1 9 0 0 n ζ] (p7 m f n h) (ag 2)
 =Ξ [Δ a m,aF m λq=>J f (0+q),κ (m<=549755813888)] (bif !b (V (ο λq=>J f (0+q)) m)then rO i l else Ξ [Δ (0+n) n,aF n λq=>J h (0+q),κ (n<=549755813888)] (bif !b (V (ο λq=>J h (0+q)) n)then rO i l else Ξ [Δ a 549755813888,Δ a m,Δ a a,Δ d 549755813888,Δ (0+n) n,Δ d d,aF d λq=>[ι (bif ω q a then f (0+(q-0)) 0 else h (0+(q-a)) 0),ι (bif ω q a then f (0+(q-0)) 1 else h (0+(q-a)) 1),ι (bif ω q a then f (0+(q-0)) 2 else h (0+(q-a)) 2),ι (bif ω q a then f (0+(q-0)) 3 else h (0+(q-a)) 3),ι (bif ω q a then f (0+(q-0)) 4 else h (0+(q-a)) 4),ι (bif ω q a then f (0+(q-0)) 5 else h (0+(q-a)) 5),ι (bif ω q a then f (0+(q-0)) 6 else h (0+(q-a)) 6),ι (bif ω q a then f (0+(q-0)) 7 else h (0+(q-a)) 7),ι (bif ω q a then f (0+(q-0)) 8 else h (0+(q-a)) 8)],κ (0+m+n<=274877906944)] (rO [AV.af [AV.own 2 o,AV.v (.bool (c g))]] [j,k,AB.row ε o 9 (J (Y (e g))) 123]))):=by intros;kernel_rfl
def axE(a:E Wh->ξ)(c:E Wh->E Wh)(b:E Wh->ξ)(m:O)(f:Θ)(n:O)(h:Θ):ad θ (sC a c b) K 100 f91 [.sl 0 9 0 0 m ζ,.sl 1 9 0 0 n ζ] (p7 m f n h) (ag 2)=Ξ [Δ m m,aF m (J f),κ (m<=549755813888)] (bif !a (V (ο (J f)) m)then .out .ret [.af [.own 2 0,.v (.bool η)]] [.row η m 9 (J f) 123,.row η n 9 (J h) 123,.row ε 0 9 (λ_=>[]) 123]else Ξ [Δ n n,aF n (J h),κ (n<=549755813888)] (bif !a (V (ο (J h)) n)then .out .ret [.af [.own 2 0,.v (.bool η)]] [.row η m 9 (J f) 123,.row η n 9 (J h) 123,.row ε 0 9 (λ_=>[]) 123]else Ξ [Δ m 549755813888,Δ m m,Δ m m,Δ (m+n) 549755813888,Δ n n,Δ (m+n) (m+n),aF (m+n) (J (jf m f h)),κ (m+n<=274877906944)] (.out .ret [.af [.own 2 (c (V (ο (J (jf m f h))) (m+n))).length,.v (.bool (b (V (ο (J (jf m f h))) (m+n))))]] [.row η m 9 (J f) 123,.row η n 9 (J h) 123,.row ε (c (V (ο (J (jf m f h))) (m+n))).length 9 (J (Y (c (V (ο (J (jf m f h))) (m+n))))) 123]))):=by rw[axD];simp only[bH,Bu];rfl
def aqz:ak θ 91 (ai k0 (yH gZ iT)):=by
 refine ca WY func91 rfl λt C k o=>?_
 unfold yH at k;split at k
 ·rename_i m a n c
  cases k;simp only[Ω]at o;obtain⟨p,r,u,v,_⟩:=o;have H:=aV u;have I:=aV v;have h:∀(D:E Wh)(b:ξ)(G:O->E τ),gZ (V (ο a) m) (V (ο c) n)=b->iT (V (ο a) m) (V (ο c) n)=D->(∀j,j<D.length->G j=J (Y D) j)->aE (.out .ret [.af [.own 2 D.length,.v (.bool b)]] [.row η m 9 (J (ο a)) 123,.row η n 9 (J (ο c)) 123,.row ε D.length 9 G 123])
    (dX (bJ k0 [.row m a,.row n c] []) {val:=.af [.own 0 (iT (V (ο a) m) (V (ο c) n)).length,.v (.bool (gZ (V (ο a) m) (V (ο c) n)))],new:=[.row ε (iT (V (ο a) m) (V (ο c) n)).length 9 (J (Y (iT (V (ο a) m) (V (ο c) n)))) 123],aw:=[aF m a,aF n c,κ (m<=2^38),κ (n<=2^38)]}):=by
   rintro D b G rfl rfl z;exact F ⟨_,rfl,rfl,.cons (ab.row λj d=>(a7 p j d).symm) (.cons (ab.row λj d=>(a7 r j d).symm) (.cons (ab.row z) .nil))⟩
  have i:∀G,rG (V (ο a) m) (V (ο c) n)=η->aE (.out .ret [.af [.own 2 0,.v (.bool η)]] [.row η m 9 (J (ο a)) 123,.row η n 9 (J (ο c)) 123,.row ε 0 9 G 123]) _:=λG e=>h [] η G (by rw[gZ,rL,e];rfl) (by rw[iT,EU,e];rfl) λj d=>aR d (dh _)
  refine⟨p7 m (ο a) n (ο c),K,100,.cons (ab.row λj d=>a7 p j d) (.cons (ab.row λj d=>a7 r j d) .nil),de _,?_⟩;show aE (ad θ (sC aO bo bC) K 100 f91 [.sl 0 9 0 0 m ζ,.sl 1 9 0 0 n ζ] (p7 m (ο a) n (ο c)) (ag 2)) _
  rw[axE,cZ,cZ,cZ];have e:V (jf m (ο a) (ο c)) (m+n)=V (ο a) m++V (ο c) n:=OW m n _ _;rw[e];refine fu (aD (λq=>?_) λq=>fu (aD (λl=>?_) λl=>aq ?_ ?_))
  ·have f:(!aO (V (ο a) m))=ε:=q
   exact i _ (by rw[rG,show aO (V (ο a) m)=η by simpa using f];rfl)
  ·have f:(!aO (V (ο c) n))=ε:=l
   exact i _ (by rw[rG,show aO (V (ο c) n)=η by simpa using f,g7])
  ·have f:(!aO (V (ο a) m))=η:=q
   have g:(!aO (V (ο c) n))=η:=l;have A:=kF (show aO (V (ο a) m)=ε by simpa using f);have B:=kF (show aO (V (ο c) n)=ε by simpa using g);rw[cR]at A B;simp only[Ω,ax,aj,aL,bl,dn,bv];omega
  ·have f:(!aO (V (ο a) m))=η:=q
   have g:(!aO (V (ο c) n))=η:=l;have s:rG (V (ο a) m) (V (ο c) n)=ε:=by rw[rG,show aO (V (ο a) m)=ε by simpa using f,show aO (V (ο c) n)=ε by simpa using g];rfl
   exact h _ _ _ (by rw[gZ,rL,s];rfl) (by rw[iT,EU,s];rfl) λj d=>rfl
 ·cases k
def axU(b:Z->Z->Z->ξ->E Wh->ξ)(c:Z->Z->Z->ξ->E Wh->E Wh)(m:O)(f:Θ)(x:Z):let d:=(V (ο λq=>J f (0+q)) m);let a:=(c (1:Z) x (0:Z) η d);ad θ (pZ b c) K 100 f160 [.sl 0 9 0 0 m ζ,.v (ι x)] [.row η m 9 (J f) 123] (ag 1)
 =Ξ [Δ (0+m) m,aF m λq=>J f (0+q),κ (m<=274877906944)] (rO [AV.af [AV.own 1 (ce a),AV.v (.bool (b (1:Z) x (0:Z) η d))]] [AB.row η m 9 (J f) 123,AB.row ε (ce a) 9 (J (Y a)) 123]):=by intros;kernel_rfl
def aqM:ak θ 160 (ai dl (tX yT tT)):=by
 refine ca CX func160 rfl λe h a c=>?_
 unfold tX at a;split at a
 ·rename_i m g x
  cases a;simp only[Ω]at c;obtain⟨d,f,_⟩:=c;have i:=aV f;refine⟨[.row η m 9 (J (ο g)) 123],K,100,.cons (ab.row λj b=>a7 d j b) .nil,de _,?_⟩;show aE (ad θ (pZ hP ga) K 100 f160 [.sl 0 9 0 0 m ζ,.v (ι x)] [.row η m 9 (J (ο g)) 123] (ag 1)) _
  rw[axU];simp only[cz,cZ];exact fu (F ⟨_,rfl,rfl,.cons (ab.row λj b=>(a7 d j b).symm) (Φ.refl _)⟩)
 ·cases a
def aw4(b:Z->Z->Z->ξ->E Wh->ξ)(c:Z->Z->Z->ξ->E Wh->E Wh)(m:O)(f:Θ)(x:Z):let d:=(V (ο λq=>J f (0+q)) m);let a:=(c (1:Z) (0:Z) x η d);ad θ (pZ b c) K 100 f161 [.sl 0 9 0 0 m ζ,.v (ι x)] [.row η m 9 (J f) 123] (ag 1)
 =Ξ [Δ (0+m) m,aF m λq=>J f (0+q),κ (m<=274877906944)] (rO [AV.af [AV.own 1 (ce a),AV.v (.bool (b (1:Z) (0:Z) x η d))]] [AB.row η m 9 (J f) 123,AB.row ε (ce a) 9 (J (Y a)) 123]):=by intros;kernel_rfl
def apZ:ak θ 161 (ai dl (tX yL tL)):=by
 refine ca CX func161 rfl λe h a c=>?_
 unfold tX at a;split at a
 ·rename_i m g x
  cases a;simp only[Ω]at c;obtain⟨d,f,_⟩:=c;have i:=aV f;refine⟨[.row η m 9 (J (ο g)) 123],K,100,.cons (ab.row λj b=>a7 d j b) .nil,de _,?_⟩;show aE (ad θ (pZ hP ga) K 100 f161 [.sl 0 9 0 0 m ζ,.v (ι x)] [.row η m 9 (J (ο g)) 123] (ag 1)) _
  rw[aw4];simp only[cz,cZ];exact fu (F ⟨_,rfl,rfl,.cons (ab.row λj b=>(a7 d j b).symm) (Φ.refl _)⟩)
 ·cases a
def awn(c:Z->Z->Z->ξ->E Wh->ξ)(d:Z->Z->Z->ξ->E Wh->E Wh)(m:O)(f:Θ):let e:=(V (ο λq=>J f (0+q)) m);let a:=(0:Z);let b:=(d (-1:Z) a a η e);ad θ (pZ c d) K 100 f84 [.sl 0 9 0 0 m ζ] [.row η m 9 (J f) 123] (ag 1)
 =Ξ [Δ (0+m) m,aF m λq=>J f (0+q),κ (m<=274877906944)] (rO [AV.af [AV.own 1 (ce b),AV.v (.bool (c (-1:Z) a a η e))]] [AB.row η m 9 (J f) 123,AB.row ε (ce b) 9 (J (Y b)) 123]):=by intros;kernel_rfl
def ZB:ak θ 84 (ai bF (qC yB tB)):=by
 refine ca CX func84 rfl λe h a c=>?_
 unfold qC at a;split at a
 ·rename_i m g
  cases a;simp only[Ω]at c;obtain⟨d,f,_⟩:=c;have i:=aV f;refine⟨[.row η m 9 (J (ο g)) 123],K,100,.cons (ab.row λj b=>a7 d j b) .nil,de _,?_⟩;show aE (ad θ (pZ hP ga) K 100 f84 [.sl 0 9 0 0 m ζ] [.row η m 9 (J (ο g)) 123] (ag 1)) _
  rw[awn];simp only[cz,cZ];exact fu (F ⟨_,rfl,rfl,.cons (ab.row λj b=>(a7 d j b).symm) (Φ.refl _)⟩)
 ·cases a
def aw_(c:Z->Z->Z->ξ->E Wh->ξ)(d:Z->Z->Z->ξ->E Wh->E Wh)(m:O)(f:Θ):let e:=(V (ο λq=>J f (0+q)) m);let a:=(0:Z);let b:=(d (-1:Z) a a ε e);ad θ (pZ c d) K 100 f85 [.sl 0 9 0 0 m ζ] [.row η m 9 (J f) 123] (ag 1)
 =Ξ [Δ (0+m) m,aF m λq=>J f (0+q),κ (m<=274877906944)] (rO [AV.af [AV.own 1 (ce b),AV.v (.bool (c (-1:Z) a a ε e))]] [AB.row η m 9 (J f) 123,AB.row ε (ce b) 9 (J (Y b)) 123]):=by intros;kernel_rfl
def ap5:ak θ 85 (ai bF (qC yM tM)):=by
 refine ca CX func85 rfl λe h a c=>?_
 unfold qC at a;split at a
 ·rename_i m g
  cases a;simp only[Ω]at c;obtain⟨d,f,_⟩:=c;have i:=aV f;refine⟨[.row η m 9 (J (ο g)) 123],K,100,.cons (ab.row λj b=>a7 d j b) .nil,de _,?_⟩;show aE (ad θ (pZ hP ga) K 100 f85 [.sl 0 9 0 0 m ζ] [.row η m 9 (J (ο g)) 123] (ag 1)) _
  rw[aw_];simp only[cz,cZ];exact fu (F ⟨_,rfl,rfl,.cons (ab.row λj b=>(a7 d j b).symm) (Φ.refl _)⟩)
 ·cases a
variable {R:Nu}
def Ea{w w':ψ}{v:τ}(g:VR R (.af [.own i L.length,.v (.bool q)]) v)(a:BR R i (.row ε L.length 9 (J (Y L)) 123) w')(h:∀q,R i=γ q->w.heap.size<=q.n/\q.n<w'.heap.size)(j:Fr (au w) w w'):fc w q L (.returned v) w':=by
 obtain⟨x,y,rfl,c,m⟩:=E1 g;rw[xO m];refine⟨x,rfl,λ_=>?_,j⟩;have n:VR R (.sl i 9 0 0 L.length ζ) x:=by
  simp only[VR]at c⊢;obtain⟨k,d,rfl⟩:=c;rcases a with⟨e,_⟩|⟨r,l,s,t,f,u,o,p,z⟩
  ·cases e
  ·rw[d]at f
   cases f;exact⟨_,_,rfl,by simp,p,λ_=>⟨k,d,by rw[(o rfl).2.1]⟩⟩
 exact .of rfl n a λq a=>(h q a).2
def dO(base:O)(rd:E O)(b:ξ)(T:E Wh)(ob:E ξ):Delta:={val:=.af [.own base T.length,.v (.bool b)],rd:=rd,put:=[],new:=[.row ε T.length 9 (J (Y T)) 123],aw:=ob}
def L3{y:Z->E Wh->ξ}{t:Z->E Wh->E Wh}(h:ak θ I (ai dl (tX y t)))(x:Z){v:τ}(a:bj X v L)(c:L.length<=12)(d:a4 (au X) X):aM θ I #[v,ι x] X (fc X (y x L) (t x L)):=by have e:ai dl (tX y t) [.sl 0 9 0 0 L.length ζ,.v (ι x)] [.row η L.length 9 (J (Y L)) 123] 1=γ (dO 1 [0] (y x (eE L)) (t x (eE L)) (Δ (0+L.length) L.length::(ml L++[]))):=rfl;rw[iy]at e;refine(nE h [ι x] a e (m7 c _) rfl rfl d).mono ?_;rintro e n ⟨x,g,rfl,i,j,k,l⟩;exact Ea i (j 0 _ rfl) (λb m=>k 0 b (fA 0) m) l
def L2{y:E Wh->ξ}{t:E Wh->E Wh}(h:ak θ I (ai bF (qC y t))){v:τ}(a:bj X v L)(c:L.length<=12)(d:a4 (au X) X):aM θ I #[v] X (fc X (y L) (t L)):=by have e:ai bF (qC y t) [.sl 0 9 0 0 L.length ζ] [.row η L.length 9 (J (Y L)) 123] 1=γ (dO 1 [0] (y (eE L)) (t (eE L)) (Δ (0+L.length) L.length::(ml L++[]))):=rfl;rw[iy]at e;refine(nE h [] a e (m7 c _) rfl rfl d).mono ?_;rintro e n ⟨x,g,rfl,i,j,k,l⟩;exact Ea i (j 0 _ rfl) (λb m=>k 0 b (fA 0) m) l
def L6(s:ρ)(a:a4 (au X) X):aM θ 90 #[.string s] X (fc X (iJ s) (iE s)):=by have e:ai [.val] (Lp iJ iE) [.v (.string s)] [] 0=γ (dO 0 [] (iJ s) (iE s) []):=rfl;refine(y' aqj [.string s] e rfl rfl rfl a).mono ?_;rintro e j ⟨x,c,rfl,d,f,g,h⟩;exact Ea d (f 0 _ rfl) (λb i=>g 0 b (fA 0) i) h
def Q'(h:bK L):(ef L).size<=3000:=by
 have d:=dI h;have a:=rH h;unfold aO at a;rw[aP]at a;have b:∀w∈L,e7 w=ε:=λw c=>bT.1 a.2 w c
 have e:=Jw b;unfold ef;rw[vm h,a6,AQ h,dF];cases L with
 |nil=>show(1:O)<=3000;omega
 |cons w L=>rw[List.isEmpty_cons,be,sS];omega
def nA(a b:E υ):aI (ah (ap a)) (ah (ap b))=ah (ap (a++b)):=wa a b
def wc(n:Z):bE n=ah (ap (bg n)):=rfl
def Jl(a:E υ):(ah (ap a)).size=a.length:=rfl
def avV(x y z:Z):fV [x,y,z]=bg x++([32]++(bg y++([32]++bg z))):=by simp[fV,Lib.join]
abbrev DU:E υ:=[110,111]
def tg(x:χ (E Wh×E υ)):ρ:=⟨((match x with|some y=>y.2|none=>DU)++[10]).toArray⟩
def Gm{Γ:aG}(c:aK θ Γ){v:τ}(q:bj X v L)(r:a4 (au X) X){d s t:ρ}(hex:aE (ad θ Γ K 100 Km [.sl 0 9 0 0 L.length ζ,.v (.string d),.v (.string s)] [.row η L.length 9 (J (Y L)) 123] (ag 1)) (λ_ l _=>l=[.v (.string t)])):aM θ 50 #[v,.string d,.string s] X (gm X (.string t)):=by
 obtain⟨h,m,u,y⟩:=q.lt;refine(nz (vals:=[v,.string d,.string s]) (H:=[.row η L.length 9 (J (Y L)) 123]) (ν:=h) (M:=au X) c mixed enters func50 (de _) (λk z=>z) hex.out ⟨u,rfl,rfl,trivial⟩ ⟨λi=>?_,λi j b D _ a=>?_,λi b a=>?_,λi b f=>(m i b f).2,r⟩ (λi b f=>(m i b f).1)).mono ?_
 ·cases i with
  |zero=>exact y
  |succ i=>trivial
 ·cases i with
  |zero=>cases a
  |succ i=>cases a
 ·cases i with
  |zero=>cases a
  |succ i=>cases a
 ·rintro e G ⟨x,I,N,A,rfl,o,p,B,g,C,_⟩
  simp only[mE,aj]at o;subst o;simp only[VR]at p;exact⟨by rw[p],g⟩
abbrev xc(n:Z):ξ:=κ (-9223372036854775807<=n/\n<=9223372036854775807)
def Wx:aK θ (Ni i8 jG nS bE xc):=az (az ba PH) z8
def Wt:aK θ (Nj i8 jG nS bE xc d_ dB):=az Wx (KI▸Px)
def akF:aK θ (Wu i8 jG nS bE xc d_ dB gw gv ge jU jV kv):=az (az Wt Z4) apG
def akG:aK θ (Wv i8 jG nS bE xc eA fH iq i4):=az (az Wx aqn) aoO
def akH:aK θ (Ww bE xc Ag Ah Af Ae):=az (az ba z8) aqh
def wW(l:E υ):(ah (ap l)).size=l.length:=rfl
def xa(h:L.length<=12):Δ (0+L.length) L.length=ε/\aF L.length (J (Y L))=ε/\κ (L.length<=274877906944)=ε:=⟨by rw[bl];omega,dn _ _,dc⟩
def af2{v:τ}(s:ρ)(e:bj X v L)(g:L.length<=12)(h:a4 (au X) X)(hs:s.size<=1000):aM θ 50 #[v,.string wAt,.string s] X (gm X (.string (tg (m9 L s.data.toList)))):=by
 refine Gm Wt e h ?_;have i:ω s.size 4294967281=ε:=by rw[bM];omega
 obtain⟨j,l,o⟩:=xa g;rw[awh];simp only[cz,oN,sh];refine aq (by simp only[Ω,ax,aj];exact i) (aD (λc=>F ?_) λc=>?_)
 ·have c:cS 1 s.data.toList=η:=by rw[<-nT];simpa using c
  unfold m9;rw[c];rfl
 ·have c:cS 1 s.data.toList=ε:=by rw[<-nT];simpa using c
  rw[uS c,rk c (oq)];refine aq (by simp only[Ω,ax,aj,j,l,o];decide) (aD (λd=>F ?_) λd=>?_)
  ·have d:uo L (aN s.data.toList 0)=η:=by simpa using d
   unfold m9;rw[c,d];rfl
  ·have d:uo L (aN s.data.toList 0)=ε:=by simpa using d
   have q:m9 L s.data.toList=γ (L,fV (qG (jg L (aN s.data.toList 0)))):=by unfold m9;rw[c,d];rfl
   rw[q];have b:=λ{k:O}(p:k<8)=>Mp (f:=Y L) (n:=aN s.data.toList 0) (m:=L.length) d p
   rw[avT];unfold jg;generalize d_ (Y L) (aN s.data.toList 0) L.length=a at*;have C:=gP (b (k:=0) (by omega));have D:=gP (b (k:=1) (by omega));have G:=gP (b (k:=2) (by omega));have H:=gP (b (k:=3) (by omega));have I:=gP (b (k:=4) (by omega));have M:=gP (b (k:=5) (by omega));have N:=gP (b (k:=6) (by omega));have P:=gP (b (k:=7) (by omega));have r:=jm (b (k:=0) (by omega));have t:=jm (b (k:=1) (by omega));have u:=jm (b (k:=2) (by omega));have x:=jm (b (k:=3) (by omega));have y:=jm (b (k:=4) (by omega));have z:=jm (b (k:=5) (by omega));have A:=jm (b (k:=6) (by omega));have B:=jm (b (k:=7) (by omega));simp only[wc,nA,wW];refine aq ?_ (F ?_)
   ·simp only[Ω,ax,aj,r,t,u,x,y,z,A,B,bv,bl,bN,bZ,eY]
    omega
   ·unfold tg
    simp only[jO,jN]
def af3{v:τ}(s:ρ)(f:bj X v L)(g:L.length<=12)(h:a4 (au X) X)(hs:s.size<=1000):aM θ 50 #[v,.string acG,.string s] X (gm X (.string (tg (mZ L s.data.toList)))):=by
 refine Gm akF f h ?_;have i:ω s.size 4294967281=ε:=by rw[bM];omega
 obtain⟨j,k,l⟩:=xa g;rw[awi];simp only[cz,oN,sh];refine aq (by simp only[Ω,ax,aj];exact i) (aD (λa=>F ?_) λa=>?_)
 ·have a:cS 2 s.data.toList=η:=by rw[<-nT];simpa using a
  unfold mZ;rw[a];rfl
 ·have a:cS 2 s.data.toList=ε:=by rw[<-nT];simpa using a
  rw[uS a,rk a (show 0<2 by omega),rk a (show 1<2 by omega)];refine aq (by simp only[Ω,ax,aj,j,k,l,bv];decide) (aD (λb=>?_) λb=>F ?_)
  ·have b:uo L (aN s.data.toList 0)=ε:=b
   refine cv (GG b) (aD (λc=>F ?_) λc=>?_)
   ·have c:C0 L (aN s.data.toList 0) (aN s.data.toList 1)=η:=by simpa using c
    unfold mZ;rw[a,b,c];rfl
   ·have c:C0 L (aN s.data.toList 0) (aN s.data.toList 1)=ε:=by simpa using c
    have q:mZ L s.data.toList=γ (L,fV [Ib L (aN s.data.toList 0) (aN s.data.toList 1),Ic L (aN s.data.toList 0) (aN s.data.toList 1)]):=by unfold mZ;rw[a,b,c];rfl
    rw[q];obtain⟨d,e⟩:=Ia (gw (w8 (jg L (aN s.data.toList 0)))) (gv (w8 (jg L (aN s.data.toList 0)))) (aN s.data.toList 1);rw[avW];unfold Ib Ic;generalize jU (gw (w8 (jg L (aN s.data.toList 0)))) (gv (w8 (jg L (aN s.data.toList 0)))) (aN s.data.toList 1)=x at*;generalize jV (gw (w8 (jg L (aN s.data.toList 0)))) (gv (w8 (jg L (aN s.data.toList 0)))) (aN s.data.toList 1)=y at*;have o:=gP d;have p:=gP e;have m:=jm d;have n:=jm e;simp only[wc,nA,wW];refine aq ?_ (F ?_)
    ·simp only[Ω,ax,aj,m,n,bv,bl,bN,bZ,eY]
     omega
    ·unfold tg
     simp only[jO,jN]
  ·have b:uo L (aN s.data.toList 0)=η:=b
   unfold mZ;rw[a,b];rfl
def af1{v:τ}(s:ρ)(g:bj X v L)(i:L.length<=12)(j:a4 (au X) X)(hs:s.size<=1000):aM θ 50 #[v,.string acD,.string s] X (gm X (.string (tg (mR L s.data.toList)))):=by
 refine Gm akG g j ?_;have l:ω s.size 4294967281=ε:=by rw[bM];omega
 obtain⟨f,m,n⟩:=xa i;rw[awj];have y:∀h:O->O->Z,(λq=>cO h (0+q))=cO h:=λh=>by funext q;rw[bH]
 simp only[cz];rw[bH,bH];refine aq (by simp only[Ω,ax,aj];exact l) (aD (λb=>F ?_) λb=>?_)
 ·have b:cS 1 s.data.toList=η:=by rw[<-nT];simpa using b
  unfold mR;rw[b];rfl
 ·have b:cS 1 s.data.toList=ε:=by rw[<-nT];simpa using b
  rw[uS b,rk b (oq)];have o:ip (fH (ο (J (Y L))) L.length (aN s.data.toList 0)).length (cO (ks (fH (ο (J (Y L))) L.length (aN s.data.toList 0))))=ε:=ue (a:=ks (fH (ο (J (Y L))) L.length (aN s.data.toList 0))) λ_ _=>rfl
  have z:(fH (ο (J (Y L))) L.length (aN s.data.toList 0)).length<=24:=aaX _ _ _;refine aq ?_ (aD (λc=>?_) λc=>F ?_)
  ·rw[bH]at f
   simp only[Ω,ax,aj,f,m,n,o,bv,aL,bl];omega
  ·have c:Eo L (aN s.data.toList 0)=ε:=c
   refine aD (λd=>F ?_) λd=>?_
   ·have d:BZ (ic L (aN s.data.toList 0))=η:=by simpa using d
    unfold mR;rw[b,c,d];rfl
   ·have d:BZ (ic L (aN s.data.toList 0))=ε:=by simpa using d
    have q:mR L s.data.toList=γ (L,fV [nx (ic L (aN s.data.toList 0)) 0,nx (ic L (aN s.data.toList 0)) 1,nx (ic L (aN s.data.toList 0)) 2,nx (ic L (aN s.data.toList 0)) 3]):=by unfold mR;rw[b,c,d];rfl
    rw[q,avU];have e:=λ{k:O}(p:k<4)=>yU d p
    unfold nx ic at*;generalize iq (bi (cO (ks (fH (ο (J (Y L))) L.length (aN s.data.toList 0))))) (fH (ο (J (Y L))) L.length (aN s.data.toList 0)).length=a at*;have A:=gP (e (k:=0) (by omega));have B:=gP (e (k:=1) (by omega));have C:=gP (e (k:=2) (by omega));have D:=gP (e (k:=3) (by omega));have r:=jm (e (k:=0) (by omega));have t:=jm (e (k:=1) (by omega));have u:=jm (e (k:=2) (by omega));have x:=jm (e (k:=3) (by omega));simp only[wc,nA,wW];refine aq ?_ (F ?_)
    ·simp only[Ω,ax,aj,r,t,u,x,bv,bl,bN,bZ,eY]
     omega
    ·unfold tg
     simp only[jO,jN]
  ·have c:Eo L (aN s.data.toList 0)=η:=c
   unfold mR;rw[b,c];rfl
def af5{v:τ}(s:ρ)(d:bj X v L)(e:a4 (au X) X):aM θ 50 #[v,.string acL,.string s] X (gm X (.string (tg (s_ L s.data.toList)))):=by
 refine Gm akH d e ?_;rw[awk];have f:=λT=>ET (s:=s.data.toList) (T:=T)
 unfold Ae Ag Ah Af Ed s_;cases g:jt s.data.toList with
 |none=>simp only[Option.isSome_none,Option.map_none];exact cv rfl (F rfl)
 |some T=>
  have k:=PQ T;have l:=f T g;simp only[Option.isSome_some,Bw];refine bA rfl ?_;rw[avV];have a:lZ (cW T).x:=by omega
  have b:lZ (cW T).y:=by omega
  have c:lZ ((cW T).t:Z):=by omega
  generalize(cW T).x=x at*;generalize(cW T).y=y at*;generalize((cW T).t:Z)=z at*;have m:=gP a;have n:=gP b;have o:=gP c;have h:=jm a;have i:=jm b;have j:=jm c;simp only[wc,nA,wW];refine aq ?_ (F ?_)
  ·simp only[Ω,ax,aj,h,i,j,bv,bl,bN,bZ,eY]
   omega
  ·unfold tg
   simp only[jO,jN]
abbrev acM:ρ:=⟨#[115,104,111,119]⟩
abbrev acF:ρ:=⟨#[102,111,108,100]⟩
abbrev acK:ρ:=⟨#[112,101,114,105,111,100]⟩
abbrev acN:ρ:=⟨#[115,117,109]⟩
def Wz(a:E Wh->ρ)(b:E Wh->ξ):aG:=ext g0 51 (ai bF (tZ a b))
def Hz(a:Z->ρ)(p:Z->ξ)(b c:E Wh->Z)(d:E Wh->Z)(e:E Wh->ξ):aG:=ext (ext (ext (ext g0 21 (aW (oR a p))) 87 (ai bF (oG b))) 88 (ai bF (oG c))) 89 (ai bF (yy d e))
def awo(a:E Wh->ρ)(d:E Wh->ξ)(n c:O)(f:Θ):let b:=(a (V (ο λq=>J f (0+q)) n));ad θ (Wz a d) K 100 Kl [.sl 0 9 0 0 n (γ c),.v (.string acM)] [.row η n 9 (J f) 123] (ag 1)
 =Ξ [Δ (0+n) n,aF n λq=>J f (0+q),κ (n<=274877906944),Δ (ay b+1) 9223372036854775807] (rO [AV.af [AV.sl 0 9 0 0 n (γ c),AV.v (.string (aI b (ah (ap [(10:υ)]))))]] [AB.row η n 9 (J f) 123]):=by intros;kernel_rfl
def awp(a:Z->ρ)(p:Z->ξ)(d g:E Wh->Z)(h:E Wh->Z)(i:E Wh->ξ)(n c:O)(f:Θ):let b:=(d (V (ο λq=>J f (0+q)) n));let e:=(aI (ah (ap [])) (a b));ad θ (Hz a p d g h i) K 100 Kl [.sl 0 9 0 0 n (γ c),.v (.string acF)] [.row η n 9 (J f) 123] (ag 1)
 =Ξ [Δ (0+n) n,aF n λq=>J f (0+q),κ (n<=274877906944),p b,Δ (0+ay (a b)) 9223372036854775807,Δ (ay e+1) 9223372036854775807] (rO [AV.af [AV.sl 0 9 0 0 n (γ c),AV.v (.string (aI e (ah (ap [(10:υ)]))))]] [AB.row η n 9 (J f) 123]):=by intros;kernel_rfl
def awq(a:Z->ρ)(p:Z->ξ)(g d:E Wh->Z)(h:E Wh->Z)(i:E Wh->ξ)(n c:O)(f:Θ):let b:=(d (V (ο λq=>J f (0+q)) n));let e:=(aI (ah (ap [])) (a b));ad θ (Hz a p g d h i) K 100 Kl [.sl 0 9 0 0 n (γ c),.v (.string acK)] [.row η n 9 (J f) 123] (ag 1)
 =Ξ [Δ (0+n) n,aF n λq=>J f (0+q),κ (n<=274877906944),p b,Δ (0+ay (a b)) 9223372036854775807,Δ (ay e+1) 9223372036854775807] (rO [AV.af [AV.sl 0 9 0 0 n (γ c),AV.v (.string (aI e (ah (ap [(10:υ)]))))]] [AB.row η n 9 (J f) 123]):=by intros;kernel_rfl
def acn(a:Z->ρ)(p:Z->ξ)(k l:E Wh->Z)(d:E Wh->Z)(e:E Wh->ξ)(n c:O)(f:Θ):let g:=(V (ο λq=>J f (0+q)) n);let h:=[AB.row η n 9 (J f) 123];let i:=AV.sl 0 9 0 0 n (γ c);let b:=(aa .i64 (d g));let j:=(aI (ah (ap [])) (a b));ad θ (Hz a p k l d e) K 100 Kl [.sl 0 9 0 0 n (γ c),.v (.string acN)] [.row η n 9 (J f) 123] (ag 1)
 =Ξ [Δ (0+n) n,aF n λq=>J f (0+q),κ (n<=274877906944)] (bif !e g then rO [AV.af [i,AV.v (.string (ah (ap [(110:υ),(111:υ),(10:υ)])))]] h else Ξ [p b,Δ (0+ay (a b)) 9223372036854775807,Δ (ay j+1) 9223372036854775807] (rO [AV.af [i,AV.v (.string (aI j (ah (ap [(10:υ)]))))]] h)):=by intros;kernel_rfl
def NB(a:ρ->O)(b:Z->ρ->ξ)(c:ρ->O->Z)(rd:Z->Z->ξ->Z->E Wh)(d:Z->Z->ξ->Z->ξ):aG:=ext (ext g0 95 (ai [.val,.val] (BO a b c))) 105 (ai [.val,.val,.val,.val] (F6 rd d))
def axr(c:ρ->O)(f:Z->ρ->ξ)(a:ρ->O->Z)(rd:Z->Z->ξ->Z->E Wh)(g:Z->Z->ξ->Z->ξ)(s:ρ)(b:ξ):let d:=(rd (a s 0) (a s 1) b (a s 2));let e:=(↑(c s):Z);ad θ (NB c f a rd g) K 100 f93 [.v (.string s),.v (.bool b)] [] (ag 0)
 =Ξ [ω (ay s) 4294967281] (bif !f (3:Z) s then rO [AV.af [AV.own 0 0,vB η]] [AB.row ε 0 9 (λ_=>[]) 123]else Ξ [κ ((0:Z)<e),κ (0<c s),κ ((1:Z)<e),κ (1<c s),κ ((2:Z)<e),κ (2<c s)] (rO [AV.af [AV.own 0 (ce d),AV.v (.bool (g (a s 0) (a s 1) b (a s 2)))]] [AB.row ε (ce d) 9 (J (Y d)) 123])):=by intros;kernel_rfl
def iL(w:ψ)(x:E Wh×E υ)(e:jM)(w':ψ):Prop:=∃s,e=.returned (.tuple #[s,.string ⟨(x.2++[10]).toArray⟩])/\bj w' s x.1/\Fr (au w) w w'
def mQ(L:E Wh)(x:χ (E Wh×E υ)):E Wh×E υ:=match x with
 |some y=>y
 |none=>(L,DU)
def B0{Γ:aG}(z:aK θ Γ){v:τ}(hR:bj X v L)(ht:a4 (au X) X)(hex:∀c,aE (ad θ Γ K 100 Kl [.sl 0 9 0 0 L.length (γ c),.v (.string D)] [.row η L.length 9 (J (Y L)) 123] (ag 1)) (λ_ a H=>a=[.af [.sl 0 9 0 0 L.length (γ c),.v (.string ⟨(l++[10]).toArray⟩)]]/\H.getD 0 .gone=.row η L.length 9 (J (Y L)) 123)):aM θ 48 #[v,.string D] X (iL X (L,l)):=by
 obtain⟨A,B,h2,h3⟩:=hR;have n:=h2;simp only[VR]at n;obtain⟨p,c,rfl,_,S,T⟩:=n;refine(nz (vals:=[.slice p L.length c,.string D]) (H:=[.row η L.length 9 (J (Y L)) 123]) (ν:=A) (M:=au X) z mixed enters Tryz.func48 (de _) (λk hk=>hk) (hex c).out ⟨?_,rfl,trivial⟩ ⟨λi=>?_,λi j b b' _ o=>?_,λi b o=>?_,λi b d=>(B i b d).2.1,ht⟩ (λi b d=>by have:=(B i b d).1;show i<1;omega)).mono ?_
 ·simp only[VR]
  exact⟨p,c,rfl,λc' e=>ov e,S,T⟩
 ·cases i with
  |zero=>exact h3
  |succ i=>trivial
 ·cases i with
  |zero=>cases o
  |succ i=>cases o
 ·cases i with
  |zero=>cases o
  |succ i=>cases o
 ·rintro e w' ⟨x,av,H2,ν',rfl,⟨W,e0⟩,hv,C,f,G,_⟩
  simp only[mE,aj]at W;subst W;obtain⟨s,y,rfl,t,k2⟩:=E1 hv;rw[xO k2];refine⟨s,rfl,?_,f⟩;simp only[VR]at t;obtain⟨q,I,rfl,k3,k4,k5⟩:=t;obtain rfl:=k3 c rfl;have d:=C.br 0;simp only[e0]at d;cases g:A 0 with
  |none=>
   have N:I=0:=by
    rcases qs I with h|h
    ·exact h
    ·obtain⟨b,d,_⟩:=T h
     rw[g]at d;cases d
   subst N;have hL:L=[]:=Sj.1 (ad9.1 S);subst hL;refine⟨λ_=>ζ,λi b h=>(by cases h),?_,.inl ⟨rfl,rfl,rfl⟩⟩;simp only[VR];exact⟨q,0,rfl,by simp,aQ _,λh=>aR h (ol 0)⟩
  |some b=>
   obtain⟨_,P,q3⟩:=B 0 b g;have m:=G _ _ g;refine⟨λj=>if j=0 then γ b else ζ,λj b' u=>?_,?_,?_⟩
   ·simp only at u
    split at u
    ·cases u
     refine⟨by assumption,eN P f.size,?_⟩;obtain⟨a,Q,k6⟩:=q3;exact⟨a,Q,(f.block _ P (gi.2 P)).trans k6⟩
    ·cases u
   ·simp only[VR]
    refine⟨q,I,rfl,by simp,k4,λN=>?_⟩;obtain⟨b2,r,R⟩:=k5 N;rw[m]at r;cases r;exact⟨b,by simp,R⟩
   ·rcases d with⟨_,_,w⟩|⟨b2,a,t',Q,r,R⟩
    ·rw[m]at w
     cases w
    ·rw[m]at r
     cases r;exact .inr ⟨b,a,t',Q,by simp,R⟩
def akL:aK θ (Wz ef yI):=az ba PC
def HA:aK θ (Hz bE xc jT j4 fd fM):=az (az (az (az ba z8) apA) aqa) ao8
def Vf(L:E Wh):0<=fd L/\fd L<4294967296:=by
 unfold fd;cases fM L with
 |false=>simp
 |true=>
  show 0<=iP _ _ _/\iP _ _ _<4294967296
  unfold iP;rw[azd];omega
def ax7(b:ρ):b=ah (ap b.data.toList):=rfl
def af'{v:τ}(b:bj X v L)(a:bK L)(d:a4 (au X) X):aM θ 48 #[v,.string acM] X (iL X (mQ L (xu L []))):=by
 refine B0 akL b d λc=>?_
 obtain⟨e,f,g⟩:=xa (dI a);have h:=Q' a;rw[awo];simp only[cz,hZ];refine aq ?_ (F ⟨?_,rfl⟩)
 ·simp only[Ω,ax,aj,e,f,g,bv,bl]
  omega
 ·rw[ax7 (ef L),nA]
def af7{v:τ}(d:bj X v L)(a:bK L)(e:a4 (au X) X):aM θ 48 #[v,.string acF] X (iL X (mQ L (ww L []))):=by
 refine B0 HA d e λc=>?_
 obtain⟨f,g,h⟩:=xa (dI a);have j:=M8 a;have b:lZ (jT L):=by omega
 have k:=gP b;have i:=jm b;rw[awp];simp only[cz,hZ,wc,nA,wW];refine aq ?_ (F ⟨?_,rfl⟩)
 ·simp only[Ω,ax,aj,f,g,h,i,bv,bl,bN,eY]
  omega
 ·simp only[jO]
def af_{v:τ}(d:bj X v L)(a:bK L)(e:a4 (au X) X):aM θ 48 #[v,.string acK] X (iL X (mQ L (xf L []))):=by
 refine B0 HA d e λc=>?_
 obtain⟨f,g,h⟩:=xa (dI a);have j:=PR a;have b:lZ (j4 L):=by omega
 have k:=gP b;have i:=jm b;rw[awq];simp only[cz,hZ,wc,nA,wW];refine aq ?_ (F ⟨?_,rfl⟩)
 ·simp only[Ω,ax,aj,f,g,h,i,bv,bl,bN,eY]
  omega
 ·simp only[jO]
def aga{v:τ}(a:bj X v L)(i:bK L)(b:a4 (au X) X):aM θ 48 #[v,.string acN] X (iL X (mQ L (sc L []))):=by
 obtain⟨d,e,f⟩:=xa (dI i);have l:=Vf L;have g:lZ (fd L):=by omega
 have m:=gP g;have j:=jm g;have k:aa aY (fd L)=fd L:=bz;unfold sc;cases h:fM L with
 |false=>
  refine B0 HA a b λc=>?_
  rw[acn];simp only[cz,hZ];refine aq (by simp only[Ω,ax,aj,d,e,f]) (cv (by rw[h];rfl) (F ⟨rfl,rfl⟩))
 |true=>
  refine B0 HA a b λc=>?_
  rw[acn];simp only[cz,hZ,k,wc,nA,wW];refine aq (by simp only[Ω,ax,aj,d,e,f]) (bA (by rw[h];rfl) (aq ?_ (F ⟨?_,rfl⟩)))
  ·simp only[Ω,ax,aj,j,bv,bl,bN,eY]
   omega
  ·simp only[jO]
def ja(s:ρ)(b:ξ):ξ:=cS 3 s.data.toList&&fy (aN s.data.toList 0) (aN s.data.toList 1) b (aN s.data.toList 2)
def jK(s:ρ)(b:ξ):E Wh:=bif cS 3 s.data.toList then fG (aN s.data.toList 0) (aN s.data.toList 1) b (aN s.data.toList 2)else[]
def Lr(rt:ρ->ξ->E Wh)(a:ρ->ξ->ξ):E SA->χ FR
 |[.v (.string s),.v (.bool b)]=>γ {val:=.af [.own 0 (rt s b).length,.v (.bool (a s b))],new:=[.row ε (rt s b).length 9 (J (Y (rt s b))) 123],aw:=[ω s.size 4294967281]}
 |_=>ζ
def ald:aK θ (NB i8 jG nS fG fy):=az (az ba PH) Z0
def aql:ak θ 93 (ai [.val,.val] (Lr jK ja)):=by
 refine ca ald func93 rfl λf i c g=>?_
 unfold Lr at c;split at c
 ·rename_i s b
  cases c;refine⟨[],K,100,Φ.refl _,de _,?_⟩;show aE (ad θ (NB i8 jG nS fG fy) K 100 f93 [.v (.string s),.v (.bool b)] [] (ag 0)) _
  rw[axr];refine aq g (aD (λa=>?_) λa=>?_)
  ·have a:cS 3 s.data.toList=η:=by rw[<-nT];simpa using a
   have d:jK s b=[]:=by unfold jK;rw[a];rfl
   have e:ja s b=η:=by unfold ja;rw[a];rfl
   rw[d,e];exact F ⟨_,rfl,rfl,.cons (ab.row λj h=>aR h (dh _)) .nil⟩
  ·have a:cS 3 s.data.toList=ε:=by rw[<-nT];simpa using a
   have d:jK s b=fG (aN s.data.toList 0) (aN s.data.toList 1) b (aN s.data.toList 2):=by unfold jK;rw[a];rfl
   have e:ja s b=fy (aN s.data.toList 0) (aN s.data.toList 1) b (aN s.data.toList 2):=by unfold ja;rw[a];rfl
   rw[uS a,rk a (show 0<3 by omega),rk a (show 1<3 by omega),rk a (show 2<3 by omega),d,e];exact aq (by decide) (F ⟨_,rfl,rfl,Φ.refl _⟩)
 ·cases c
def UZ(s:ρ)(b:ξ)(a:a4 (au X) X)(hs:s.size<=1000):aM θ 93 #[.string s,.bool b] X (fc X (ja s b) (jK s b)):=by have e:ai [.val,.val] (Lr jK ja) [.v (.string s),.v (.bool b)] [] 0=γ (dO 0 [] (ja s b) (jK s b) [ω s.size 4294967281]):=rfl;refine(y' aql [.string s,.bool b] e (by simp only[Ω,ax,aj,dO,bM];omega) rfl rfl a).mono ?_;rintro e j ⟨x,c,rfl,d,f,g,h⟩;exact Ea d (f 0 _ rfl) (λb i=>g 0 b (fA 0) i) h
def abO{A B:E Wh}(h:gZ A B=ε):bK (iT A B)/\∀φ,pH φ->dd φ (iT A B)=dd φ A+dd φ B:=by
 have b:=abN h;rw[gZ,rL,rG,aP,aP]at h;obtain⟨⟨c,d⟩,e⟩:=h;have f:mT 2000000000000 (A++B):=λw g=>by
  rcases nm.1 g with h|h
  ·exact((Pu c).mono (by omega)) w h
  ·exact((Pu d).mono (by omega)) w h
 obtain⟨i,j⟩:=AT f e;refine⟨?_,λφ a=>?_⟩
 ·rw[iT,b]
  exact i
 ·rw[iT,b,AP,j φ a,OS]
def an7(a b:ao):∀k,k<8->bw a (fI b) k=fI (bw a b) k:=by
 have c:fI b 0= -b 7:=rfl;have d:fI b 4=b 3+b 7:=rfl;have e:fI b 1=b 0:=rfl;have f:fI b 2=b 1:=rfl;have g:fI b 3=b 2:=rfl;have h:fI b 5=b 4:=rfl;have i:fI b 6=b 5:=rfl;have j:fI b 7=b 6:=rfl;refine lM ?_ ?_ ?_ ?_ ?_ ?_ ?_ ?_
 ·show bw a (fI b) 0= -bw a b 7
  simp only[bw,dy,c,e,f,g,d,h,i,j];grind
 ·show bw a (fI b) 1=bw a b 0
  simp only[bw,dy,c,e,f,g,d,h,i,j];grind
 ·show bw a (fI b) 2=bw a b 1
  simp only[bw,dy,c,e,f,g,d,h,i,j];grind
 ·show bw a (fI b) 3=bw a b 2
  simp only[bw,dy,c,e,f,g,d,h,i,j];grind
 ·show bw a (fI b) 4=bw a b 3+bw a b 7
  simp only[bw,dy,c,e,f,g,d,h,i,j];grind
 ·show bw a (fI b) 5=bw a b 4
  simp only[bw,dy,c,e,f,g,d,h,i,j];grind
 ·show bw a (fI b) 6=bw a b 5
  simp only[bw,dy,c,e,f,g,d,h,i,j];grind
 ·show bw a (fI b) 7=bw a b 6
  simp only[bw,dy,c,e,f,g,d,h,i,j];grind
def Pe(a b:ao):∀(n k:O),k<8->bw a (cE b n) k=cE (bw a b) n k
 |0,_,_=>rfl
 |n+1,k,c=>by
  show bw a (fI (cE b n)) k=fI (cE (bw a b) n) k
  rw[an7 a (cE b n) k c];exact abL (Pe a b n) k c
def zV(a b:ao):∀k,k<8->bw a b k=bw b a k:=by refine lM ?_ ?_ ?_ ?_ ?_ ?_ ?_ ?_<;>(simp only[bw,dy];grind)
def an8(a b:ao)(m n:O)(k:O)(d:k<8):bw (cE a m) (cE b n) k=cE (bw a b) (m+n) k:=by rw[Pe _ _ _ k d,<-Rg];refine AU (λj c=>?_) n k d;rw[zV _ _ j c,Pe _ _ _ j c];exact AU (zV b a) m j c
def an9(a b:ao)(m n:Z)(k:O)(c:k<8):bw (iG a m) (iG b n) k=iG (bw a b) (m+n) k:=by unfold iG;rw[an8 _ _ _ _ k c];exact avS _ (by omega) k c
def aht(a f g:ao):∀k,dy a (λj=>f j+g j) k=dy a f k+dy a g k:=λk=>by unfold dy;split<;>grind
def Zc(a f g:ao):∀k,bw a (λj=>f j+g j) k=bw a f k+bw a g k:=λk=>by unfold bw;split<;>first|(simp only[aht];omega)|rfl
def Ze(a:ao):∀k,bw a (λ_=>0) k=0:=λk=>by unfold bw;split<;>simp[dy]
def YM{φ:O->Z->(O->Z)->Z}(a:ao):∀(L:E Wh)(k:O),bw a (λk=>dd (φ k) L) k=dd (λs f=>bw a (λk=>φ k s f) k) L
 |[],k=>Ze a k
 |w::l,k=>by
  show bw a (λk=>φ k w.s w.r.f+dd (φ k) l) k=_
  rw[Zc,YM a l k];rfl
def ary{x y:Wh}(f: -1000<=x.s/\x.s<=1000)(g: -1000<=y.s/\y.s<=1000)(c:fo 1000000 x.r.f)(d:fo 1000000 y.r.f)(h:jI x y=ε):(fR x y).s=x.s+y.s/\(∀k,k<8->(fR x y).r.f k=bw x.r.f y.r.f k)/\fo 1000000 (fR x y).r.f:=by
 have b:ia x.r.f y.r.f=ε:=h;have e:j6 x.r.f y.r.f=ez x.r.f y.r.f:=by rw[j6,b];rfl
 refine⟨bz,λk a=>?_,λk a=>?_⟩
 ·show(bq (j6 x.r.f y.r.f)).f k=_
  rw[Cc _ k a,e];exact W8 (an6 c d) (by omega) k a
 ·show _<=(bq (j6 x.r.f y.r.f)).f k/\(bq (j6 x.r.f y.r.f)).f k<=_
  rw[ia,aP]at b;rw[e];exact Mn b.2 k a
def aaC{t:Z}{k:O}(a:k<8):∀{A B:E Wh},(∀x∈A,∀y∈B,(fR x y).s=x.s+y.s/\(∀k,k<8->(fR x y).r.f k=bw x.r.f y.r.f k))->dd (yV t k) (cT A B)=bw (pS A t) (pS B t) k
 |[],B,_=>by
  show(0:Z)=bw (λk=>0) (pS B t) k
  rw[zV _ _ k a,Ze]
 |x::A,B,h=>by
  have e:cT (x::A) B=B.map (fR x)++cT A B:=rfl;rw[e,OS,aaC a λd b y c=>h d (by simp[b]) y c];have g:dd (yV t k) (B.map (fR x))=dd (λs f=>bw (iG x.r.f (t*x.s)) (iG f (t*s)) k) B:=YL λy c=>by
   obtain⟨i,j⟩:=h x (by simp) y c;rw[i];show iG (fR x y).r.f (t*(x.s+y.s)) k=bw (iG x.r.f (t*x.s)) (iG y.r.f (t*y.s)) k
   rw[an9 _ _ _ _ k a,avQ j _ k a,Int.mul_add]
  have l:dd (λs f=>bw (iG x.r.f (t*x.s)) (iG f (t*s)) k) B=bw (iG x.r.f (t*x.s)) (pS B t) k:=(YM (φ:=yV t) (iG x.r.f (t*x.s)) B k).symm;have m:pS (x::A) t=λk=>iG x.r.f (t*x.s) k+pS A t k:=rfl
  rw[g,l,m,zV _ _ k a,zV (pS A t) _ k a,zV (λk=>iG x.r.f (t*x.s) k+pS A t k) _ k a];exact(Zc _ _ _ k).symm
def aci{A B:E Wh}(h:fC A B=ε):bK (iU A B)/\∀(t:Z)(k:O),k<8->pS (iU A B) t k=bw (pS A t) (pS B t) k:=by
 have g:=ach h;rw[fC,ql,aP,aP,aP]at h;obtain⟨⟨⟨d,e⟩,i⟩,j⟩:=h;have c:∀x∈A,∀y∈B,(fR x y).s=x.s+y.s/\(∀k,k<8->(fR x y).r.f k=bw x.r.f y.r.f k)/\fo 1000000 (fR x y).r.f:=λx a y b=>ary (xb d a).1 (xb e b).1 (xb d a).2.1 (xb e b).2.1 (bT.1 (bT.1 i x a) y b)
 have l:mT 2000000000000 (cT A B):=λw f=>by simp only[cT,List.mem_flatMap,gh]at f;obtain⟨x,a,y,b,rfl⟩:=f;exact(c x a y b).2.2.mono (by omega)
 obtain⟨m,n⟩:=AT l j;rw[g];exact⟨m,λt k o=>(n _ (afu t k)).trans (aaC o λx a y b=>⟨(c x a y b).1,(c x a y b).2.1⟩)⟩
def BU(L:E Wh)(r:E υ):χ (E Wh×E υ):=bif dJ ⟨r.toArray⟩&&gZ L (b6 ⟨r.toArray⟩)then γ (iT L (b6 ⟨r.toArray⟩),[111,107])else ζ
def ag8:jC 28 BU:=λ{D L} s {w} l t z P=>by
 have mixed:=mixed;obtain⟨p,n,c,A,B⟩:=id l;have C:w.drew.cell? ⟨D,0,ζ⟩=γ (.slice p n c):=by rw[hO w.drew D 0 #[.slice p n c] _ (0,0) A];rfl
 have b:=L7 s (t.nw.fw (fs w));have Q:=λd (f:Fr (au w.drew) w.drew d)=>dj.die (L:=L) l ((fs w).trans f)
 have G:=λd (v:τ)(f:Fr (au w.drew) w.drew d)(h:bj d v (b6 s))=>afX (B.below ((fs w).trans f)) h z (AR s) ((t.nw.fw ((fs w).trans f)))
 have H:∀(d m:ψ)(v:τ),Fr (au w.drew) w.drew d->Fr (au d) d m->(gZ L (b6 s)=ε->bj m v (iT L (b6 s)))->aM θ 58 #[.pointer (γ ⟨D,0,ζ⟩),v,.bool (gZ L (b6 s))] m (dj D L (bif gZ L (b6 s)then γ (iT L (b6 s),[111,107])else ζ) w):=λd m v f g h=>(uk (l.fr (dr ((fs w).trans f) g)) h (λh=>(abO h).1)).mono λe x h=>h.after (dr ((fs w).trans f) g)
 unfold BU;rw[show(ah s.data.toList.toArray)=s from qI rfl];cases y:dJ s with
 |false=>
  rw[y]at b;rw[l5,be];clear G H l B z P A y t
  go_enter func28,ntmps28
  go_wp2
  rename_i U o;refine qn [6] (λx=>x.cell? ⟨D,0,ζ⟩=γ (.slice p n c)) (by kernel_rfl) ?_;refine cp 0 (.pointer (γ ⟨D,0,ζ⟩)) ?_;refine cp 5 (.string s) ?_;refine cp 1 (.pointer (γ ⟨D,0,ζ⟩)) ?_;refine cp 2 (.pointer (γ ⟨D,0,ζ⟩)) ?_;refine cp 3 (.pointer (γ ⟨D,0,ζ⟩)) ?_;refine qm [7,8,9,10,11] (i:=4) (v:=.slice p n c) rfl rfl (by kernel_rfl) (by kernel_rfl) (by kernel_rfl) (λ_ _ _ h=>h) (lr ⟨by rfl,λW I=>by simp[go_sem,dw,I]⟩) C ?_;simp only[jx,mF];refine gD (k:=6) (by kernel_rfl) rfl rfl (λa j=>?_);go_simp;refine b.mono ?_;rintro e d ⟨M,r⟩;obtain rfl:=M;exact⟨rfl,Q _ r⟩
 |true=>
  rw[y]at b;rw[ex];generalize gZ L (b6 s)=q at*;generalize iT L (b6 s)=T at*;generalize b6 s=R at*;clear l B z P A y t Q
  go_enter func28,ntmps28
  go_wp2
  rename_i U o;refine qn [6] (λx=>x.cell? ⟨D,0,ζ⟩=γ (.slice p n c)) (by kernel_rfl) ?_;refine cp 0 (.pointer (γ ⟨D,0,ζ⟩)) ?_;refine cp 5 (.string s) ?_;refine cp 1 (.pointer (γ ⟨D,0,ζ⟩)) ?_;refine cp 2 (.pointer (γ ⟨D,0,ζ⟩)) ?_;refine cp 3 (.pointer (γ ⟨D,0,ζ⟩)) ?_;refine qm [7,8,9,10,11] (i:=4) (v:=.slice p n c) rfl rfl (by kernel_rfl) (by kernel_rfl) (by kernel_rfl) (λ_ _ _ h=>h) (lr ⟨by rfl,λW I=>by simp[go_sem,dw,I]⟩) C ?_;simp only[jx,mF];refine gD (k:=6) (by kernel_rfl) rfl rfl (λa j=>?_);go_simp;refine b.mono ?_;rintro e d ⟨⟨u,M,X⟩,r⟩;obtain rfl:=M;have c2:=y6 C r;clear b;refine j.out _ _ (λ_=>c2) ?_;clear j a;refine gD (k:=7) (by kernel_rfl) rfl rfl (λa j=>?_);go_simp;refine(G _ u r X).mono ?_;rintro e m ⟨v,rfl,h2,f2⟩;refine j.out _ _ (λh=>aR h (by decide)) ?_;clear j a G;refine cp 8 v ?_;refine cp 9 (.bool q) ?_;simp only[jx,mF];refine gD (k:=10) (by kernel_rfl) rfl rfl (λa j=>?_);go_simp;refine(H _ _ v r f2 h2).mono ?_;rintro e w3 S;cases q with
  |false=>obtain⟨rfl,N⟩:=S.rp;exact⟨rfl,N⟩
  |true=>
   obtain⟨rfl,N⟩:=S.qj;refine j.out _ _ (λh=>aR h (by decide)) ?_;clear j a H;refine cp 11 (.string uP) ?_;refine BX (by kernel_rfl) ?_;go_simp;apply o
   go_wp2
   go_ret
   exact N
def EY(L:E Wh)(r:E υ):χ (E Wh×E υ):=bif dJ ⟨r.toArray⟩&&fC L (b6 ⟨r.toArray⟩)then γ (iU L (b6 ⟨r.toArray⟩),[111,107])else ζ
def ahp:jC 29 EY:=λ{D L} s {w} l t z P=>by
 have mixed:=mixed;obtain⟨p,n,c,A,B⟩:=id l;have C:w.drew.cell? ⟨D,0,ζ⟩=γ (.slice p n c):=by rw[hO w.drew D 0 #[.slice p n c] _ (0,0) A];rfl
 have b:=L7 s (t.nw.fw (fs w));have Q:=λd (f:Fr (au w.drew) w.drew d)=>dj.die (L:=L) l ((fs w).trans f)
 have G:=λd (v:τ)(f:Fr (au w.drew) w.drew d)(h:bj d v (b6 s))=>afY (B.below ((fs w).trans f)) h z (AR s) ((t.nw.fw ((fs w).trans f)))
 have H:∀(d m:ψ)(v:τ),Fr (au w.drew) w.drew d->Fr (au d) d m->(fC L (b6 s)=ε->bj m v (iU L (b6 s)))->aM θ 58 #[.pointer (γ ⟨D,0,ζ⟩),v,.bool (fC L (b6 s))] m (dj D L (bif fC L (b6 s)then γ (iU L (b6 s),[111,107])else ζ) w):=λd m v f g h=>(uk (l.fr (dr ((fs w).trans f) g)) h (λh=>(aci h).1)).mono λe x h=>h.after (dr ((fs w).trans f) g)
 unfold EY;rw[show(ah s.data.toList.toArray)=s from qI rfl];cases y:dJ s with
 |false=>
  rw[y]at b;rw[l5,be];clear G H l B z P A y t
  go_enter func29,ntmps29
  go_wp2
  rename_i U o;refine qn [6] (λx=>x.cell? ⟨D,0,ζ⟩=γ (.slice p n c)) (by kernel_rfl) ?_;refine cp 0 (.pointer (γ ⟨D,0,ζ⟩)) ?_;refine cp 5 (.string s) ?_;refine cp 1 (.pointer (γ ⟨D,0,ζ⟩)) ?_;refine cp 2 (.pointer (γ ⟨D,0,ζ⟩)) ?_;refine cp 3 (.pointer (γ ⟨D,0,ζ⟩)) ?_;refine qm [7,8,9,10,11] (i:=4) (v:=.slice p n c) rfl rfl (by kernel_rfl) (by kernel_rfl) (by kernel_rfl) (λ_ _ _ h=>h) (lr ⟨by rfl,λW I=>by simp[go_sem,dw,I]⟩) C ?_;simp only[jx,mF];refine gD (k:=6) (by kernel_rfl) rfl rfl (λa j=>?_);go_simp;refine b.mono ?_;rintro e d ⟨M,r⟩;obtain rfl:=M;exact⟨rfl,Q _ r⟩
 |true=>
  rw[y]at b;rw[ex];generalize fC L (b6 s)=q at*;generalize iU L (b6 s)=T at*;generalize b6 s=R at*;clear l B z P A y t Q
  go_enter func29,ntmps29
  go_wp2
  rename_i U o;refine qn [6] (λx=>x.cell? ⟨D,0,ζ⟩=γ (.slice p n c)) (by kernel_rfl) ?_;refine cp 0 (.pointer (γ ⟨D,0,ζ⟩)) ?_;refine cp 5 (.string s) ?_;refine cp 1 (.pointer (γ ⟨D,0,ζ⟩)) ?_;refine cp 2 (.pointer (γ ⟨D,0,ζ⟩)) ?_;refine cp 3 (.pointer (γ ⟨D,0,ζ⟩)) ?_;refine qm [7,8,9,10,11] (i:=4) (v:=.slice p n c) rfl rfl (by kernel_rfl) (by kernel_rfl) (by kernel_rfl) (λ_ _ _ h=>h) (lr ⟨by rfl,λW I=>by simp[go_sem,dw,I]⟩) C ?_;simp only[jx,mF];refine gD (k:=6) (by kernel_rfl) rfl rfl (λa j=>?_);go_simp;refine b.mono ?_;rintro e d ⟨⟨u,M,X⟩,r⟩;obtain rfl:=M;have c2:=y6 C r;clear b;refine j.out _ _ (λ_=>c2) ?_;clear j a;refine gD (k:=7) (by kernel_rfl) rfl rfl (λa j=>?_);go_simp;refine(G _ u r X).mono ?_;rintro e m ⟨v,rfl,h2,f2⟩;refine j.out _ _ (λh=>aR h (by decide)) ?_;clear j a G;refine cp 8 v ?_;refine cp 9 (.bool q) ?_;simp only[jx,mF];refine gD (k:=10) (by kernel_rfl) rfl rfl (λa j=>?_);go_simp;refine(H _ _ v r f2 h2).mono ?_;rintro e w3 S;cases q with
  |false=>obtain⟨rfl,N⟩:=S.rp;exact⟨rfl,N⟩
  |true=>
   obtain⟨rfl,N⟩:=S.qj;refine j.out _ _ (λh=>aR h (by decide)) ?_;clear j a H;refine cp 11 (.string uP) ?_;refine BX (by kernel_rfl) ?_;go_simp;apply o
   go_wp2
   go_ret
   exact N
def uh(L:E Wh)(_:E υ):χ (E Wh×E υ):=bif yB L then γ (tB L,[111,107])else ζ
def ag':jC 35 uh:=λ{D L} s {w} b i j r=>by
 have mixed:=mixed;obtain⟨p,n,c,k,l⟩:=id b;have y:w.cell? ⟨D,0,ζ⟩=γ (.slice p n c):=by rw[hO w D 0 #[.slice p n c] _ (0,0) k];rfl
 have m:=afT l j i.nw;have o:∀(a:ψ)(v:τ),Fr (au w) w a->(yB L=ε->bj a v (tB L))->aM θ 58 #[.pointer (γ ⟨D,0,ζ⟩),v,.bool (yB L)] a (dj D L (bif yB L then γ (tB L,[111,107])else ζ) w):=λa v f h=>(uk (b.fr f) h λh=>sj (by omega) h).mono λe z h=>h.after f
 unfold uh;generalize yB L=q at*;generalize tB L=T at*;clear b i j r k l;cases q with
 |false=>
  go_enter func35,ntmps35
  go_wp2_with (first|(go_at_call 67;refine m.mono ?_;rintro e a ⟨v,rfl,t,u⟩)|(go_at_call 58;refine(o _ _ ‹_› ‹_›).mono ?_;rintro e x d;obtain⟨rfl,g⟩:=d.rp))
  exact⟨rfl,g⟩
 |true=>
  go_enter func35,ntmps35
  go_wp2_with (first|(go_at_call 67;refine m.mono ?_;rintro e a ⟨v,rfl,t,u⟩)|(go_at_call 58;refine(o _ _ ‹_› ‹_›).mono ?_;rintro e x d;obtain⟨rfl,g⟩:=d.qj))
  go_ret
  exact g
def uL(L:E Wh)(_:E υ):χ (E Wh×E υ):=bif yM L then γ (tM L,[111,107])else ζ
def ahg:jC 36 uL:=λ{D L} s {w} b i j r=>by
 have mixed:=mixed;obtain⟨p,n,c,k,l⟩:=id b;have y:w.cell? ⟨D,0,ζ⟩=γ (.slice p n c):=by rw[hO w D 0 #[.slice p n c] _ (0,0) k];rfl
 have m:=afW l j i.nw;have o:∀(a:ψ)(v:τ),Fr (au w) w a->(yM L=ε->bj a v (tM L))->aM θ 58 #[.pointer (γ ⟨D,0,ζ⟩),v,.bool (yM L)] a (dj D L (bif yM L then γ (tM L,[111,107])else ζ) w):=λa v f h=>(uk (b.fr f) h λh=>sj (by omega) h).mono λe z h=>h.after f
 unfold uL;generalize yM L=q at*;generalize tM L=T at*;clear b i j r k l;cases q with
 |false=>
  go_enter func36,ntmps36
  go_wp2_with (first|(go_at_call 68;refine m.mono ?_;rintro e a ⟨v,rfl,t,u⟩)|(go_at_call 58;refine(o _ _ ‹_› ‹_›).mono ?_;rintro e x d;obtain⟨rfl,g⟩:=d.rp))
  exact⟨rfl,g⟩
 |true=>
  go_enter func36,ntmps36
  go_wp2_with (first|(go_at_call 68;refine m.mono ?_;rintro e a ⟨v,rfl,t,u⟩)|(go_at_call 58;refine(o _ _ ‹_› ‹_›).mono ?_;rintro e x d;obtain⟨rfl,g⟩:=d.qj))
  go_ret
  exact g
end
end Go.Proofs.YtdadmpgfcfkidaaGreatDoor
