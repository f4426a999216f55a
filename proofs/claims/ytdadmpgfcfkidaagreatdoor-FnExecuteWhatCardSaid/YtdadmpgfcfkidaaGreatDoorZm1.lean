/- Part 1 of the proof of FnExecuteNoneCard, FnExecuteTwiceCard, FnExecuteWhatCard. -/
import Derived.Test.YtdadmpgfcfkidaaGreatDoorZm0
import Derived.Test.YtdadmpgfcfkidaaGreatDoorProg
import Derived.Test.YtdadmpgfcfkidaaGreatDoorRows
import Derived.OpenShut
import Derived.Carry
import Derived.Deep.Slices
import Derived.Shelf.Strconv.Itoa3
import Derived.Shelf.Strings.OnBuilder
set_option maxRecDepth 100000
set_option maxHeartbeats 8000000
set_option linter.defProp false
set_option linter.unusedVariables false
set_option linter.unusedSimpArgs false
open Go.Addr renaming add→vn
open Array renaming mk→ap
open BitVec renaming ofInt→mB,toNat_ofInt→ay5
open _root_ renaming Bool→ξ,ByteArray→ρ,False→jy,Int→Z,List→E,Nat→O,Option→χ,UInt8→υ,absurd→aR
open ByteArray renaming mk→ah,size→ay
open Go.ByteArray renaming mk_append_mk→ade
open Classical renaming choose→mC,propDecidable→JQ
open Go renaming Code→bc,DataW→l6,Func→cb,FuncId→dm,MemPlace→yg,TypeId→ae,Value→τ,World→ψ
open Go.DataW renaming TrodAll→adk,Whole→adl
open Go.Exit renaming inBlock→pr
open Function renaming comp→JU
open Go.Shelf renaming Ren→nj
open Int renaming sub_zero→adB,tdiv→eh,tmod→fk,tmod_lt_of_pos→adC,tmod_nonneg→adD,toNat→aT
open Go.IntKind renaming i64→aY,u8→pu,wrap→aa
open Go.Lib renaming TabIs→R7,decDigits→gL,itoa→bg,join→iW,joinTail→mD
open List.Pairwise renaming filter→adM,nil→yb
open List.Perm renaming refl→JZ,swap→adN
open List renaming getD→J3,length→ce,length_filter_le→azi,map→Fq,pairwise_cons→oj,range→dK
open Nat renaming beq→Ψ,ble→Δ,blt→ω
open Go.Sort renaming grow→Kj
open Go.Proofs.Tryz renaming f103→SF,f113→Kk,f118→ls,f12→SH,f129→SI,f153→SN,f157→SS,f158→SU,f166→SW,f234→S1,f236→S3,f237→S4,func118→Tc,func12→aem,func193→aen,prog→θ
open UInt8 renaming ofNat→ns
open Go.Value renaming bool→aeC,cells→pE,func→TA,int→jc,okWide→TB,slice→gj,string→b9
open Go.World renaming cell?→oA
open Decidable renaming decide→κ
open Bool renaming false→η,true→ε
open Option renaming none→ζ,some→γ
open Go.Proofs.Tryz
namespace Go.Proofs.YtdadmpgfcfkidaaGreatDoor
noncomputable section
open Go.RowKit Go.ChangeShapes Go.WideShapes Go.ChangeAt Go.Deep Go.Shelf
def ex:=@Bool.true_and
def gK:=@Classical.choose_spec
def ik:=@Int.add_zero
def xW:=@Int.one_mul
def R3:=@Int.pow_succ
def Bf:=@Int.tdiv_eq_ediv_of_nonneg
def cV:=@Int.toNat_natCast
def adE:=@Int.zero_add
def R4:=@Int.zero_mul
def Fh:=@Go.IntKind.wrap_u8
def JY:=@Go.Lib.decDigits_length
def tC:=@Go.Lib.join_cons
def Fl:=@List.all_map
def vp:=@List.append_nil
def Fo:=@List.drop_eq_getElem_cons
def azf:=@List.drop_eq_nil_of_le
def R':=@List.ext_getElem
def Sb:=@List.filter_cons_of_neg
def Sc:=@List.filter_cons_of_pos
def Se:=@List.filter_eq_self
def J1:=@List.find?_cons
def yc:=@List.find?_eq_none
def adU:=@List.find?_range_eq_some
def J2:=@List.forall_mem_cons
def Si:=@List.getElem_cons_succ
def kP:=@List.map_append
def rR:=@List.map_map
def adY:=@List.mem_iff_getElem
def np:=@List.mem_range
def iX:=@List.not_mem_nil
def J9:=@List.range_succ
def J':=@Nat.add_assoc
def Ke:=@Nat.pow_succ
def oq:=@Nat.zero_lt_one
def cq:=@beq_eq_false_iff_ne
def Kv:=@false_imp_iff
def Ky:=@implies_true
def cu:=@of_decide_eq_false
def oC:=@or_false
def mixed:θ.follows .mixedOrders=ε:=by kernel_rfl
def an':θ.funcs.toList.all (λfn=> !(fn.name== "runtime.NumGoroutine"))=ε:=by kernel_rfl
def enters:Enters θ:=by
 intro g fn b d args w;have f:(fn.name== "runtime.NumGoroutine")=η:=by
  have:=bT.1 an' fn (by have:=(cC.1 b);obtain⟨h,e⟩:=this;rw[<-e];simp)
  simpa using this
 obtain⟨c,i⟩:=tG.1 d;have a:¬fn.name= "runtime.NumGoroutine" :=by simpa using f
 simp[callFunc,b,a,i]
def g0:aG:=λ_=>ζ
def ba:aK θ g0:=λ_ _ h=>by cases h
structure Good (r:am) (x:τ):Prop where
 out:r.ok (oI x)
variable {I:dm}
def et{Γ:aG}(b:aK θ Γ){n:O}{fn:cb}(c:θ.funcs[I]?=γ fn)(d:fn.body.isSome=ε){a:E τ->χ (τ×E ξ)}(h:∀vs x ob,a vs=γ (x,ob)->aJ ob=ε->Good (ad θ Γ K n fn (vs.map .v) [] dR) x):ak θ I (aW a):=
 n4 (λargs w=>enters I fn c d args w) λvs x ob e g w i=>U0 b mixed enters c (h vs x ob e g).out w i
abbrev ι(n:Z):τ:=.int .i64 n
abbrev vI(x:Z):AV:=.v (.int .i64 x)
abbrev rO(l:E AV)(H:E AB):am:=.out .ret l H
abbrev vB(b:ξ):AV:=.v (.bool b)
abbrev dA(a:ao):τ:=.agg #[.int .i64 (a 0),.int .i64 (a 1),.int .i64 (a 2),.int .i64 (a 3),.int .i64 (a 4),.int .i64 (a 5),.int .i64 (a 6),.int .i64 (a 7)]
abbrev ig(s:ao):τ:=.agg #[.int .i64 (s 0),.int .i64 (s 1),.int .i64 (s 2),.int .i64 (s 3)]
def pX(r:am):χ τ:=match r with| .out _ [v] _=>v.iH|_=>ζ
def one{r:am}{x:τ}(h:pX r=γ x):Good r x:=by
 constructor;unfold pX at h;split at h
 ·exact⟨_,rfl,h⟩
 ·cases h
def z_(r:am):χ τ:=pX r
def uy{r:am}{x:τ}(h:z_ r=γ x):Good r x:=one h
def xe(b:ξ)(r s:am):z_ (cond b r s)=cond b (z_ r) (z_ s):=by cases b<;>rfl
def uQ(x:τ):z_ (rv x)=γ x:=rfl
def B'{α:Type}(b:ξ)(x y:α):cond b (γ x) (γ y)=γ (cond b x y):=by cases b<;>rfl
def Mb(b x y:ξ):cond b (aeC x) (aeC y)=aeC (cond b x y):=by cases b<;>rfl
def Vg(b:ξ)(k:IntKind)(x y:Z):cond b (jc k x) (jc k y)=jc k (cond b x y):=by cases b<;>rfl
def y8{f g:O->Z}(h:∀k,k<8->f k=g k):dA f=dA g:=by rw[dA,h 0 (by decide),h 1 (by decide),h 2 (by decide),h 3 (by decide),h 4 (by decide),h 5 (by decide),h 6 (by decide),h 7 (by decide)]
def abs{f g:O->Z}(h:∀k,k<4->f k=g k):ig f=ig g:=by rw[ig,h 0 (by decide),h 1 (by decide),h 2 (by decide),h 3 (by decide)]
def D2{a b:ξ}(h:aJ [a,b]=ε):a=ε/\b=ε:=by simpa[aJ]using h
def cj(a b c:E O):Ex->E O
 | .normal=>a
 | .exit _=>b
 | .ret=>c
def bX(id:O)(S:Sum):O->χ Sum:=λj=>bif Ψ j id then γ S else ζ
def a5(id:O)(fn:cb):bc:=match nB id (fn.body.getD .skip)with
 | .block _ (.loop c)::_=>c
 |_=>.skip
variable {P:Program}
def Iq{m0 id:O}{fn:cb}{S:Sum}{c:bc}(h:nB id (fn.body.getD .skip)=[.block id (.loop c)])(i:ck P m0 (.block id (.loop c)) S):∀f,fn.body=γ f->dk P m0 (bX id S) f:=by
 intro f g j k d b e;unfold bX at d;cases a:Ψ j id with
 |false=>rw[a]at d;cases d
 |true=>rw[a]at d;cases d;rw[cA a]at e;rw[g]at h;simp only[iK]at h;rw[h]at e;simp at e;subst e;exact i
structure aE (r:am) (Q:Ex->E AV->E AB->Prop):Prop where
 out:r.ok Q
variable {Q:Ex->E AV->E AB->Prop}
variable {q:ξ}
def aD{r s:am}(a:q=ε->aE r Q)(c:q=η->aE s Q):aE (cond q r s) Q:=by
 cases q
 ·exact c rfl
 ·exact a rfl
def cv{r s:am}(a:q=ε)(h:aE r Q):aE (cond q r s) Q:=by subst a;exact h
def bA{r s:am}(a:q=η)(h:aE s Q):aE (cond q r s) Q:=by subst a;exact h
variable {G:E AV}
variable {S:E AB}
def F{e:Ex}(h:Q e G S):aE (.out e G S) Q:=⟨h⟩
def Pb{Γ:aG}(e:aK θ Γ){fn:cb}{Λ:O->χ Sum}{n:O}{mds:E Md}{a:E SA->χ FR}(g:θ.funcs[I]?=γ fn)(i:fn.body.isSome=ε)(h:∀sas b,a sas=γ b->aJ b.aw=ε->∃d,Φ (bO mds sas) d/\(∀c,fn.body=γ c->dk θ d.length Λ c)/\aE (ad θ Γ Λ n fn (ir 0 mds sas) d (ag d.length)) (dX (bJ mds sas b.put) b)):ak θ I (ai mds a):=
 auh e mixed enters g i λsas b j k=>let⟨d,l,m,o⟩:=h sas b j k;⟨d,l,m,o.out⟩
def de(m0:O){fn:cb}:∀c,fn.body=γ c->dk θ m0 K c:=λc _=>cN _ _ c
def RF{α:Type}(f:O->α):∀l:E O,l.zip (l.map f)=l.map λi=>(i,f i)
 |[]=>rfl
 |a::l=>by simp[RF f l]
def sP{σ:Type}(N:O)(live:E O)(b:E AV->E AB->χ σ)(c:σ->E ξ)(out:σ->dx->am):Sum:=λT H a=>
 cond (Ψ T.length N) (match b (live.map λi=>T.getD i .dead) H with
  |some s=>Ξ (c s) (out s a)
  |none=>.err) .err
def kJ{Q b:Ex->E AV->E AB->Prop}(h:∀e T H,Q e T H->b e T H):∀{r:am},r.ok Q->r.ok b
 | .err,a=>a
 | .out e T H,a=>h e T H a
def Y'{Γ:aG}(q:aK θ Γ){id n m m0 N:O}{c:bc}{lv:Ex->E O}{Λ:O->χ Sum}{σ:Type}{k:E AV->E AB->χ σ}{d:σ->E ξ}{out:σ->dx->am}(l:σ->O->E (O×AV))(o:σ->O->E AB)(mo:σ->O->Prop)(len:σ->O)(v:lW (lv .normal)=ε)(r:dk θ m0 Λ c)(w:m0<=m)(x:∀avs H p,k avs H=γ p->aJ (d p)=ε->∃H1,Rv m (ar 0 N ((lv .normal).zip avs)) H=γ (ar 0 N (l p 0),H1)/\Φ H1 (o p 0)/\mo p 0)(h:∀p a Q,aJ (d p)=ε->(out p a).ok Q->∀i,mo p i->i<=len p->aE (a0 θ Γ n Λ c (ar 0 N (l p i)) (o p i) (eV lv m)) λe T' H'=>match e with
       | .normal=>i<len p/\T'=ar 0 N (l p (i+1))/\Φ H' (o p (i+1))/\mo p (i+1)
       | .exit j=>∃b,Φ H' b/\if j=id then(a .normal T' b).ok Q else(a (.exit j) T' b).ok Q
       | .ret=>∃b,Φ H' b/\(a .ret T' b).ok Q):ck θ m0 (.block id (.loop c)) (sP N (lv .normal) k d out):=by
 refine avl q mixed enters (lv:=lv) (Λ:=Λ) (n:=n) r w λT H a Q f=>?_
 unfold sP at f;cases s:Ψ T.length N with
 |false=>rw[s]at f;exact f.elim
 |true=>
  rw[s,a6]at f;split at f
  ·rename_i p y
   obtain⟨t,z⟩:=zY f;obtain⟨H1,A,B,C⟩:=x _ _ _ y t;refine⟨O,λi=>(ar 0 N (l p i),o p i),λi=>mo p i/\i<=len p,λi=>len p-i,0,⟨C,ej _⟩,⟨H1,?_,B⟩,λi u=>?_⟩
   ·rw[ayx v (cA s),<-A]
    congr 2
    exact(RF _ _).symm
   ·have:=(h p a Q t z i u.1 u.2).out
    refine kJ (λe T' H' g=>?_) this;cases e with
    |normal=>exact⟨i+1,⟨g.2.2.2,g.1⟩,g.2.1,g.2.2.1,by have:=g.1;simp only;omega⟩
    |exit j=>exact g
    |ret=>exact g
  ·exact f.elim
def Ω{b:ξ}{bs:E ξ}:aJ (b::bs)=ε↔b=ε/\aJ bs=ε:=by simp[aJ]
def kr(n:O):Ψ n n=ε:=mG n
def ax:aJ []=ε:=rfl
def aq{bs:E ξ}{r:am}(h:aJ bs=ε)(k:aE r Q):aE (Ξ bs r) Q:=by
 induction bs with
 |nil=>exact k
 |cons b bs a=>rw[Ω]at h;rw[h.1]at*;exact⟨(a h.2).out⟩
def intOf:τ->Z
 | .int .i64 x=>x
 |_=>0
abbrev qf(a:ao):O->E τ:=λj=>[ι (a j)]
def c_{bs:E ξ}{r:am}(k:aE r Q)(h:aJ bs=ε:=by simp only[Ω,ax,aj,aL,bl,bv]<;>omega):aE (Ξ bs r) Q:=aq h k
def da{m0 id:O}{fn:cb}{S:Sum}{c:bc}(b:ck P m0 (.block id (.loop c)) S)(h:nB id (fn.body.getD .skip)=[.block id (.loop c)]:=by kernel_rfl):∀a,fn.body=γ a->dk P m0 (bX id S) a:=Iq h b
section
def own:ownKnob θ.godebug=ζ:=by kernel_rfl
def laidOut:laidOutB θ=ε:=by kernel_rfl
def vX:Ex->E AV->E AB->Prop:=λ_ l _=>l=[.v (.bool ε)]
section
variable {H:Type} {enc:ae×τ->H} {P:Program}
def ars{f:cb}{s:ChangeSpec}{c n d o:ξ}{W q:ψ}{args:Array τ}{v:τ}{u w:E (l6 H)}{a pa pv:E yg}(A:adl enc P f.params.toList s.vars c W args.toList u w a)(k:∀(b:O)(sp:O->ξ)(D:ξ),adk enc P q b sp D f.resultTypes.toList (v.resultList f.resultTypes.size) (s.fn H (u++w)).results [])(e:∀sp:O->ξ,(∀p∈a,sp p.block=ε)->adk enc P q 0 sp ε f.params.toList args.toList (s.fn H (u++w)).args pa)(g:∀sp:O->ξ,(∀p∈a,sp p.block=ε)->DataW.TrodVars enc P q sp s.vars (s.fn H (u++w)).vars pv)(i:a=pa++pv)(C:Below W.heap.size W q)(B:∀(j:O)(t:ae)(r:τ),f.resultTypes[j]?=γ t->(v.resultList f.resultTypes.size)[j]?=γ r->TB P q .any 0 t r):s.post enc P f c n d o W args v q:=by
 have x:∀p∈a,p.block<W.heap.size:=λp h=>A.lt p h
 have l:∀p∈a,(λb=>κ (b<W.heap.size)) p.block=ε:=λp h=>by simpa using x p h
 refine⟨u,w,a,[],pa,pv,A,k _ _ _,e _ l,g _ l,World.keptBut_mono (λp h=>⟨h,?_⟩) (C.frame (· ∈a)),λ_=>?_⟩
 ·rw[i,nm]at h
  exact Or.inr h
 ·obtain⟨_,_,_,_,_,G,L⟩:=A
  refine⟨B,_,_,([]++pa)++pv,⟨[]++pa,pv,trodAll_append (e _ (λ_ _=>rfl)) (k _ _ _),g _ (λ_ _=>rfl),rfl,?_,?_⟩,?_⟩
  ·intro b y h
   have z:MemPlace.cell b y∈a:=by rw[i];simpa using h
   rw[C.frozen (x _ z)];exact G b y z
  ·intro M
   have:=L M;rw[i]at this;simpa using this
  ·intro p h _
   rw[i];simpa using h
def afn{W:ψ}{base s:O}{t e:ae}{v:τ}{d:l6 H}{p:E yg}(ht:P.underlying t=γ (.slice e))(hc:P.cellsOf e=s)(hs:0<s)(hv:TB P W .any base t v)(h:DataW.Trod enc P W 0 (λ_=>ε) ε t v d p)(q:(O->Z)->E τ)(T:(O->Z)->Prop)(z:∀f,(q f).length=s/\∀x∈q f,x.oneCell'=ε)(he:∀n cs x,cs.length=s->DataW.trod enc P W 0 (λ_=>ε) ε n e cs=γ x->∃f,T f/\cs=q f)(tt:ae)(A:a4 (λk=>W.heap.size<=k) W:=by intro x hx;simp[vf]at hx):∃(m:O)(ν:Nu)(g:Θ),m<=9223372036854775807/\(∀j,j<m->T (g j))/\VR ν (.sl 0 s 0 0 m ζ) v/\RH (λk=>W.heap.size<=k) ν (λb=>([AB.row η m s (λj=>q (g j)) tt]:E AB).getD b .gone) W/\∀i b,ν i=γ b->i<1:=by
 obtain⟨pt,G,cap,rfl⟩:=okWide_slice ht hv;obtain⟨fuel,hf⟩:=h;have empty:∀c,VR (λ_=>ζ) (.sl 0 s 0 0 0 ζ) (.slice pt 0 c)->∃(m:O)(ν:Nu)(g:Θ),m<=9223372036854775807/\(∀j,j<m->T (g j))/\VR ν (.sl 0 s 0 0 m ζ) (.slice pt 0 c)/\RH (λk=>W.heap.size<=k) ν (λb=>([AB.row η m s (λj=>q (g j)) tt]:E AB).getD b .gone) W/\∀i b,ν i=γ b->i<1:=by
  intro c hvr;refine⟨0,λ_=>ζ,λ_ _=>0,by omega,λj hj=>by omega,hvr,⟨λi=>?_,λi j b b' _ _ _ h=>by simp at h,λi b _ h=>by simp at h,(λi b h=>by simp at h),A⟩,λi b h=>by simp at h⟩
  match i with
  |0=>exact .inl ⟨rfl,rfl,rfl⟩
  |n+1=>trivial
 rcases open_slice ht hf with⟨h0,_⟩|⟨a,len',cap',m,n,D,Pl,B,hb,hl,hm,L,hx,hi⟩
 ·simp only[pE]at h0
  simp at h0;obtain⟨rfl,rfl,rfl⟩:=h0;exact empty 0 (by simp only[VR];exact⟨ζ,0,rfl,by simp,aQ _,by omega⟩)
 ·simp only[pE]at B
  simp at B;obtain⟨rfl,rfl,rfl⟩:=B;simp only[qA]at L;subst L;unfold maxLen at hm;by_cases hz:m=0
  ·subst hz
   have:G=0:=by omega
   subst this;exact empty 0 (by simp only[VR];exact⟨γ a,0,rfl,by simp,aQ _,by omega⟩)
  ·have cells:∀i,∃f,i<m->T f/\∀k,k<s->W.cell? ((a.add (i*s)).add k)=(q f)[k]?:=by
    intro i;by_cases M:i<m
    ·obtain⟨cs',u,h2⟩:=hi i M
     rw[hc]at u;obtain⟨_,h3,h4⟩:=World.cells?_some u;obtain⟨f,h5,h6⟩:=he n cs' _ h3 h2;exact⟨f,λ_=>⟨h5,λk U=>by rw[h4 k U,h6]⟩⟩
    ·exact⟨λ_=>0,λh=>aR h M⟩
   have get:∀i k,i<m->k<s->∃x,(q (mC (cells i)))[k]?=γ x:=λi k _ U=>by have:=(z (mC (cells i))).1;exact⟨_,df (by omega)⟩
   obtain⟨x0,hx0⟩:=get 0 0 (by omega) hs;have y:=((gK (cells 0)) (by omega)).2 0 hs;rw[hx0,Bv]at y;have w:a.spot=ζ:=by have:=World.cell?_spot y;simpa[vn]using this
   obtain⟨C,r,sp⟩:=a;simp only at w;subst w;have e0:((⟨C,r,ζ⟩:Addr).add 0).add 0=⟨C,r,ζ⟩:=by simp[vn]
   rw[e0]at y;obtain⟨o,X⟩:∃o,W.heap[C]?=γ o:=by
    unfold oA at y;split at y
    ·exact⟨_,by assumption⟩
    ·cases y
   obtain⟨l,N,R,rfl⟩:∃l N R,o=.cells (List.toArray l) N R:=by
    unfold oA at y;simp only[X]at y;cases o with
    |cells c N R=>exact⟨c.toList,N,R,by simp⟩
    |_=>cases y
   refine⟨G,λi=>if i=0 then γ ⟨C,r,m⟩else ζ,λi=>mC (cells i),by omega,λj hj=>((gK (cells j)) (by omega)).1,?_,⟨λi=>?_,λi j b b' hij hw _ u h2=>?_,λi b hw u=>?_,λi b u=>?_,A⟩,λi b u=>?_⟩
   ·simp only[VR]
    exact⟨_,m,rfl,by simp,hl,λ_=>⟨_,rfl,by simp⟩⟩
   ·match i with
    |0=>
     refine .inr ⟨⟨C,r,m⟩,l,N,R,rfl,X,λh=>by simp at h,hl,λj hj=>⟨z _,λk U=>?_⟩⟩;have:=((gK (cells j)) (by omega)).2 k U;rw[<-this];have e1:((⟨C,r,ζ⟩:Addr).add (j*s)).add k=⟨C,r+(j*s+k),ζ⟩:=by rw[addr_add,addr_add,J']
     rw[e1,oL X]
    |n+1=>trivial
   ·match i with
    |0=>simp[AB.wr]at hw
    |n+1=>simp at u
   ·match i with
    |0=>simp[AB.wr]at hw
    |n+1=>simp at u
   ·match i with
    |0=>simp at u;subst u;exact(cC.1 X).1
    |n+1=>simp at u
   ·match i with
    |0=>omega
    |n+1=>simp at u
end
def ayW{Γ:aG}(j:aK θ Γ){Λ:O->χ Sum}{n:O}{f:dm}{fn:cb}{avs:E AV}{H:E AB}{ν:Nu}{vals:E τ}{w:ψ}(o:θ.funcs[f]?=γ fn)(p:∀c,fn.body=γ c->dk θ H.length Λ c)(h:aE (ad θ Γ Λ n fn avs H (ag H.length)) vX)(q:aB ν avs vals)(r:RH (λk=>w.heap.size<=k) ν (λb=>H.getD b .gone) w)(d:∀i b,ν i=γ b->i<H.length):Calls θ f vals.toArray w λe w'=>e=.returned (.bool ε)/\Below w.heap.size w w':=by refine(nz j mixed enters o p (λk l=>l) h.out q r d).mono ?_;rintro e w' ⟨v,s,x,t,rfl,u,g,_,a,_⟩;have:[s]=[vB ε]:=u;simp only[mE,aj]at this;subst this;simp only[VR]at g;subst g;exact⟨rfl,⟨a.os,a.tape,a.output,a.size,λk l=>a.block k l (by omega)⟩⟩
def mo(f:ao):Prop:=∀k,-9223372036854775808<=f k/\f k<=9223372036854775807
end
def P6(p:ao)(k:O):O->Z:=λm=>if m=k then 0 else if m+4=k then W (p m+p k)else if m+8=k then W (p m-p k)else p m
def lc(p:ao)(n:O):O->O->Z
 |0=>p
 |d+1=>P6 (lc p n d) (n-1-d)
def O_(a:ao)(m:O):Z:=if m=0 then W (0+a 0)else if 17<=m/\m<=23 then W (0+a (24-m))else 0
def anW(a:ao):∀k,k<8->lc (O_ a) 25 17 k=jo a k:=by
 refine lM ?_ ?_ ?_ ?_ ?_ ?_ ?_ ?_<;>
  simp[lc,P6,O_,jo,wV,Rp,acB,rI,rJ,acC,JE]<;>(congr 1;omega)
def tP(a b:ao):O->O->Z
 |0=>xS
 |s+1=>λm=>if m=s/8+s%8 then W (tP a b s m+W (a (s/8)*b (s%8)))else tP a b s m
def avt(a b:ao):∀m,m<15->tP a b 64 m=W (dy a b m):=by
 iterate 15 refine aks ?_ ?_
 ·exact akt
 all_goals
  simp[tP,dy,Rp,rI,rJ]
def arI(p q:ao)(h:∀m,m<15->p m=W (q m)):lc p 15 7 0=W (q 0-q 8-q 12)/\lc p 15 7 1=W (q 1-q 9-q 13)/\lc p 15 7 2=W (q 2-q 10-q 14)/\lc p 15 7 3=W (q 3-q 11)/\lc p 15 7 4=W (q 4+q 8)/\lc p 15 7 5=W (q 5+q 9)/\lc p 15 7 6=W (q 6+q 10)/\lc p 15 7 7=W (q 7+q 11):=by
 refine⟨?_,?_,?_,?_,?_,?_,?_,?_⟩<;>
  simp[lc,P6,h,rI,rJ,acC,JE]<;>(congr 1;omega)
def avO(a b:ao):∀k,k<8->lc (tP a b 64) 15 7 k=ez a b k:=by obtain⟨c,d,e,f,g,h,i,j⟩:=arI _ _ (avt a b);exact lM c d e f g h i j
def uu:E τ->χ (τ×E ξ)
 |[.int .i64 n,.int .i64 l,.int .i64 h]=>γ (.bool (aH n l h),[])
 |_=>ζ
def PN:ak θ 123 (aW uu):=by
 refine et (n:=100) ba Tryz.func123 rfl λb x c a d=>?_
 unfold uu at a;split at a
 ·rename_i n l h
  simp only[aC,cI]at a;obtain⟨rfl,rfl⟩:=a;have e:ad θ g0 K 100 f123 ([.int .i64 n,.int .i64 l,.int .i64 h].map .v) [] dR=cond (κ (n>=l)) (rv (.bool (κ (n<=h)))) (rv (.bool η)):=by kernel_rfl
  rw[e];exact uy (by simp only[xe,uQ,aH];cases κ (l<=n)<;>rfl)
 ·cases a
def lN:aG:=ext g0 123 (aW uu)
def nI:aK θ lN:=az ba PN
def ZW:ak θ 170 (aW uu):=by
 refine et (n:=100) nI func170 rfl λb x c a d=>?_
 unfold uu at a;split at a
 ·rename_i n l h
  simp only[aC,cI]at a;obtain⟨rfl,rfl⟩:=a;have e:ad θ lN K 100 f170 ([.int .i64 n,.int .i64 l,.int .i64 h].map .v) [] dR=cond (κ (n>=l)) (rv (.bool (κ (n<=h)))) (rv (.bool η)):=by kernel_rfl
  rw[e];exact uy (by simp only[xe,uQ,aH];cases κ (l<=n)<;>rfl)
 ·cases a
def nH:aG:=ext lN 170 (aW uu)
def qT:aK θ nH:=az nI ZW
def zn:E τ->χ (τ×E ξ)
 |[.agg ⟨[.int .i64 a,.int .i64 b,.int .i64 c,.int .i64 d,.int .i64 e,.int .i64 f,.int .i64 g,.int .i64 h]⟩,.int .i64 m]=>γ (.bool (qi (v8 a b c d e f g h) (W (0-m)) m),[])
 |_=>ζ
def aqs:ak θ 213 (aW zn):=by
 refine et (n:=100) qT func213 rfl λk x l j o=>?_
 unfold zn at j;split at j
 ·rename_i a b c d f g h i m
  simp only[aC,cI]at j;obtain⟨rfl,rfl⟩:=j;have e:ad θ nH K 100 f213 ([.agg ⟨[.int .i64 a,.int .i64 b,.int .i64 c,.int .i64 d,.int .i64 f,.int .i64 g,.int .i64 h,.int .i64 i]⟩,.int .i64 m].map .v) [] dR=cond (!aH ((v8 a b c d f g h i) 0) (W (0-m)) m) (rv (.bool η)) (cond (!aH ((v8 a b c d f g h i) 1) (W (0-m)) m) (rv (.bool η)) (cond (!aH ((v8 a b c d f g h i) 2) (W (0-m)) m) (rv (.bool η)) (cond (!aH ((v8 a b c d f g h i) 3) (W (0-m)) m) (rv (.bool η)) (cond (!aH ((v8 a b c d f g h i) 4) (W (0-m)) m) (rv (.bool η)) (cond (!aH ((v8 a b c d f g h i) 5) (W (0-m)) m) (rv (.bool η)) (cond (!aH ((v8 a b c d f g h i) 6) (W (0-m)) m) (rv (.bool η)) (cond (!aH ((v8 a b c d f g h i) 7) (W (0-m)) m) (rv (.bool η)) (rv (.bool ε))))))))):=by kernel_rfl
  rw[e];exact uy (by simp only[xe,uQ,qi,v8,B',Mb])
 ·cases j
def H_:aG:=ext nH 213 (aW zn)
def NR:aK θ H_:=az qT aqs
def Hg:E τ->χ (τ×E ξ)
 |[.agg ⟨[.int .i64 a,.int .i64 b,.int .i64 c,.int .i64 d,.int .i64 e,.int .i64 f,.int .i64 g,.int .i64 h]⟩,.agg ⟨[.int .i64 i,.int .i64 j,.int .i64 k,.int .i64 l,.int .i64 m,.int .i64 n,.int .i64 o,.int .i64 p]⟩]=>γ (dA (rx (v8 a b c d e f g h) (v8 i j k l m n o p)),[])
 |_=>ζ
def PJ:ak θ 195 (aW Hg):=by
 refine et (n:=100) NR func195 rfl λb x c a d=>?_
 unfold Hg at a;split at a
 ·rename_i e f g h i j k l m o p q r s t u
  simp only[aC,cI]at a;obtain⟨rfl,rfl⟩:=a;exact one (by kernel_rfl)
 ·cases a
def NQ:aG:=ext H_ 195 (aW Hg)
def XH:aK θ NQ:=az NR PJ
def Hj:E τ->χ (τ×E ξ)
 |[.int .i64 n]=>γ (.int .i64 (n%24),[aH n (-9223372036854775808) 9223372036854775807])
 |_=>ζ
def aaa:ak θ 208 (aW Hj):=by
 refine et (n:=100) XH func208 rfl λd x f a c=>?_
 unfold Hj at a;split at a
 ·rename_i n
  simp only[aC,cI]at a;obtain⟨rfl,rfl⟩:=a;have b:=cd.1 (show aH n (-9223372036854775808) 9223372036854775807=ε by simpa[aJ]using c);have e:pX (ad θ NQ K 100 f208 ([.int .i64 n].map .v) [] dR)=γ (ι ((W (n.tmod 24+24)).tmod 24)):=by kernel_rfl
  rw[aiJ b.1 b.2]at e;exact one e
 ·cases a
def NT:aG:=ext NQ 208 (aW Hj)
def XR:aK θ NT:=az XH aaa
def G8:E τ->χ (τ×E ξ)
 |[.int .i64 n]=>γ (.int .i64 (n%24),[])
 |_=>ζ
def PE:ak θ 235 (aW G8):=by
 refine et (n:=100) XR func235 rfl λb x c a d=>?_
 unfold G8 at a;split at a
 ·rename_i n
  simp only[aC,cI]at a;obtain⟨rfl,rfl⟩:=a;have e:ad θ NT K 100 f235 ([.int .i64 n].map .v) [] dR=cond (κ (n.tmod 24<0)) (rv (ι (W (n.tmod 24+24)))) (rv (ι (n.tmod 24))):=by kernel_rfl
  rw[e];exact uy (by rw[xe,uQ,uQ,B',Vg,an0])
 ·cases a
def Xp:aG:=ext NT 235 (aW G8)
def Xq:aK θ Xp:=az XR PE
def CA:E τ->χ (τ×E ξ)
 |[.int .i64 n]=>γ (.bool (aH n 0 23),[])
 |_=>ζ
def IQ:ak θ 164 (aW CA):=by
 refine et (n:=100) Xq func164 rfl λb x c a d=>?_
 unfold CA at a;split at a
 ·rename_i n
  simp only[aC,cI]at a;obtain⟨rfl,rfl⟩:=a;exact one (by kernel_rfl)
 ·cases a
def NK:aG:=ext Xp 164 (aW CA)
def Xo:aK θ NK:=az Xq IQ
def Hd:E τ->χ (τ×E ξ)
 |[.agg ⟨[.int .i64 a,.int .i64 b,.int .i64 c,.int .i64 d,.int .i64 e,.int .i64 f,.int .i64 g,.int .i64 h]⟩]=>γ (dA (jo (v8 a b c d e f g h)),[])
 |_=>ζ
def ZZ:ak θ 127 (aW Hd):=by
 refine et (n:=100) Xo func127 rfl λk x l a m=>?_
 unfold Hd at a;split at a
 ·rename_i b c d f g h i j
  simp only[aC,cI]at a;obtain⟨rfl,rfl⟩:=a;have e:pX (ad θ NK K 100 f127 ([.agg ⟨[.int .i64 b,.int .i64 c,.int .i64 d,.int .i64 f,.int .i64 g,.int .i64 h,.int .i64 i,.int .i64 j]⟩].map .v) [] dR)=γ (dA (lc (O_ (v8 b c d f g h i j)) 25 17)):=by kernel_rfl
  rw[y8 (anW (v8 b c d f g h i j))]at e;exact one e
 ·cases a
def NP:aG:=ext NK 127 (aW Hd)
def XG:aK θ NP:=az Xo ZZ
def CE:E τ->χ (τ×E ξ)
 |[.agg ⟨[.int .i64 a,.int .i64 b,.int .i64 c,.int .i64 d,.int .i64 e,.int .i64 f,.int .i64 g,.int .i64 h]⟩,.agg ⟨[.int .i64 i,.int .i64 j,.int .i64 k,.int .i64 l,.int .i64 m,.int .i64 n,.int .i64 o,.int .i64 p]⟩]=>γ (dA (ez (v8 a b c d e f g h) (v8 i j k l m n o p)),[])
 |_=>ζ
def PL:ak θ 203 (aW CE):=by
 refine et (n:=100) XG func203 rfl λt x u a v=>?_
 unfold CE at a;split at a
 ·rename_i b c d f g h i j k l m o p q r s
  simp only[aC,cI]at a;obtain⟨rfl,rfl⟩:=a;have e:pX (ad θ NP K 100 f203 ([.agg ⟨[.int .i64 b,.int .i64 c,.int .i64 d,.int .i64 f,.int .i64 g,.int .i64 h,.int .i64 i,.int .i64 j]⟩,.agg ⟨[.int .i64 k,.int .i64 l,.int .i64 m,.int .i64 o,.int .i64 p,.int .i64 q,.int .i64 r,.int .i64 s]⟩].map .v) [] dR)=γ (dA (lc (tP (v8 b c d f g h i j) (v8 k l m o p q r s) 64) 15 7)):=by kernel_rfl
  rw[y8 (avO (v8 b c d f g h i j) (v8 k l m o p q r s))]at e;exact one e
 ·cases a
def NS:aG:=ext NP 203 (aW CE)
def XQ:aK θ NS:=az XG PL
def G':E τ->χ (τ×E ξ)
 |[.agg ⟨[.int .i64 a,.int .i64 b,.int .i64 c,.int .i64 d,.int .i64 e,.int .i64 f,.int .i64 g,.int .i64 h]⟩,.int .i64 n,.agg ⟨[.int .i64 i,.int .i64 j,.int .i64 k,.int .i64 l,.int .i64 m,.int .i64 o,.int .i64 p,.int .i64 q]⟩]=>γ (dA (mA (v8 a b c d e f g h) n (v8 i j k l m o p q)),[])
 |_=>ζ
def PF:ak θ 239 (aW G'):=by
 refine et (n:=100) XQ func239 rfl λv x w a y=>?_
 unfold G' at a;split at a
 ·rename_i b c d f h i j l n m o p q r s t u
  simp only[aC,cI]at a;obtain⟨rfl,rfl⟩:=a;have e:pX (ad θ NS K 100 f239 ([.agg ⟨[.int .i64 b,.int .i64 c,.int .i64 d,.int .i64 f,.int .i64 h,.int .i64 i,.int .i64 j,.int .i64 l]⟩,.int .i64 n,.agg ⟨[.int .i64 m,.int .i64 o,.int .i64 p,.int .i64 q,.int .i64 r,.int .i64 s,.int .i64 t,.int .i64 u]⟩].map .v) [] dR)=γ (dA (λk=>W ((v8 b c d f h i j l) k+W (n*(v8 m o p q r s t u) k)))):=by kernel_rfl
  rw[y8 (g:=mA (v8 b c d f h i j l) n (v8 m o p q r s t u)) λk _=>rJ _ _]at e;exact one e
 ·cases a
def Xt:aG:=ext NS 239 (aW G')
def Xu:aK θ Xt:=az XQ PF
def G_:E τ->χ (τ×E ξ)
 |[.agg ⟨[.int .i64 a,.int .i64 b,.int .i64 c,.int .i64 d,.int .i64 e,.int .i64 f,.int .i64 g,.int .i64 h]⟩]=>γ (dA (fT (v8 a b c d e f g h)),[])
 |_=>ζ
def ZT:ak θ 270 (aW G_):=by
 refine et (n:=100) Xu func270 rfl λb x c a d=>?_
 unfold G_ at a;split at a
 ·rename_i e f g h i j k l
  simp only[aC,cI]at a;obtain⟨rfl,rfl⟩:=a;exact one (by kernel_rfl)
 ·cases a
def NL:aG:=ext Xt 270 (aW G_)
def Xs:aK θ NL:=az Xu ZT
def Hb:E τ->χ (τ×E ξ)
 |[.agg ⟨[.int .i64 a,.int .i64 b,.int .i64 c,.int .i64 d,.int .i64 e,.int .i64 f,.int .i64 g,.int .i64 h]⟩,.agg ⟨[.int .i64 i,.int .i64 j,.int .i64 k,.int .i64 l,.int .i64 m,.int .i64 n,.int .i64 o,.int .i64 p]⟩]=>γ (dA (ez (v8 a b c d e f g h) (v8 i j k l m n o p)),[])
 |_=>ζ
def ZU:ak θ 238 (aW Hb):=by
 refine et (n:=100) Xs func238 rfl λt x u a v=>?_
 unfold Hb at a;split at a
 ·rename_i b c d f g h i j k l m o p q r s
  simp only[aC,cI]at a;obtain⟨rfl,rfl⟩:=a;have e:pX (ad θ NL K 100 f238 ([.agg ⟨[.int .i64 b,.int .i64 c,.int .i64 d,.int .i64 f,.int .i64 g,.int .i64 h,.int .i64 i,.int .i64 j]⟩,.agg ⟨[.int .i64 k,.int .i64 l,.int .i64 m,.int .i64 o,.int .i64 p,.int .i64 q,.int .i64 r,.int .i64 s]⟩].map .v) [] dR)=γ (dA (Rd (v8 b c d f g h i j) (v8 k l m o p q r s))):=by kernel_rfl
  rw[y8 (avN (v8 b c d f g h i j) (v8 k l m o p q r s))]at e;exact one e
 ·cases a
def NM:aG:=ext NL 238 (aW Hb)
def Xv:aK θ NM:=az Xs ZU
def G9:E τ->χ (τ×E ξ)
 |[.agg ⟨[.int .i64 a,.int .i64 b,.int .i64 c,.int .i64 d,.int .i64 e,.int .i64 f,.int .i64 g,.int .i64 h]⟩]=>γ (dA (jo (v8 a b c d e f g h)),[])
 |_=>ζ
def ZS:ak θ 233 (aW G9):=by
 refine et (n:=100) Xv func233 rfl λk x l a m=>?_
 unfold G9 at a;split at a
 ·rename_i b c d f g h i j
  simp only[aC,cI]at a;obtain⟨rfl,rfl⟩:=a;have e:pX (ad θ NM K 100 f233 ([.agg ⟨[.int .i64 b,.int .i64 c,.int .i64 d,.int .i64 f,.int .i64 g,.int .i64 h,.int .i64 i,.int .i64 j]⟩].map .v) [] dR)=γ (dA (Pa (v8 b c d f g h i j))):=by kernel_rfl
  rw[y8 (anX (v8 b c d f g h i j))]at e;exact one e
 ·cases a
def Xr:aG:=ext NM 233 (aW G9)
def alu:aK θ Xr:=az Xv ZS
noncomputable def cy(p:Prop):ξ:= @κ p (JQ p)
def cG{p:Prop}(h:p):cy p=ε:=by unfold cy;exact @di p (JQ p) h
def IL{p:Prop}(h:cy p=ε):p:=by unfold cy at h;exact @aV p (JQ p) h
def JF(live:E O)(m:O)(T:E AV)(H:E AB):χ (E AV×E AB):=
 match n8 live m T H with
 |some p=>γ (live.map λi=>p.1.getD i .dead,p.2)
 |none=>ζ
variable {i:O}
def JG{live:E O}{p:E AV×E AB}(h:JF live i G S=γ p)(l:lW live=ε):n8 live i G S=γ (ar 0 G.length (live.zip p.1),p.2):=by
 unfold JF at h;split at h
 ·rename_i q b
  cases h;rw[b];obtain⟨s,u⟩:=q;simp only[aC,cI,aj];unfold n8 at b;split at b
  ·rename_i a v f w
   cases g:(j0 (jE i (eJ live 0 G) S)&&(jE i (eJ live 0 G) S).take i==pj 0 i)with
   |false=>rw[g]at b;cases b
   |true=>
    rw[g]at b;simp only[a6,aC,cI]at b;obtain⟨rfl,rfl⟩:=b;have n:a.length=G.length:=by rw[El f,DP]
    have o:∀t,live.elem t=η->a.getD t .dead=.dead:=by intro t c;have:=P_ f t;rw[DO,bH,c]at this;simp only[tz,tQ,ms,aC]at this;exact this.symm
    have r:eJ live 0 a=a:=by
     apply Sa;intro t;by_cases c:t<a.length
     ·have j:=DO live a 0 t
      rw[bH]at j;have k:(eJ live 0 a).getD t .dead=a.getD t .dead:=by
       rw[j];split
       ·rfl
       ·rename_i e
        exact(o t (by simpa using e)).symm
      have d:t<(eJ live 0 a).length:=by rw[DP];exact c
      simp only[cX,df c,df d,iK]at k;rw[df c,df d,k]
     ·rw[nk (by rw[DP];omega),nk (by omega)]
    have:=DQ a 0 live l λ_ _=>ej _
    rw[r,n]at this;simp only[Bu]at this;rw[RF];exact this
  ·cases b
 ·cases h
def cw(N:O)(lv:Ex->E O)(m:O):dx:=λe T H=>cond (Ψ T.length N) (match JF (lv e) m T H with
 |some p=>.out e p.1 p.2
 |none=>.err) .err
noncomputable def bm(N:O)(live:E O)(m:O)(vals:E AV)(b:E AB)(out:dx->am):Sum:=λT H a=>
 cond (Ψ T.length N) (match JF live m T H with
  |some p=>cond (cy (p.1=vals/\Φ p.2 b)) (out a) .err
  |none=>.err) .err
def vW{σ:Type}(N id:O)(lv:Ex->E O)(h:σ->E AV)(i:σ->E AB)(d:σ->Prop)(a:dx)(Q:Ex->E AV->E AB->Prop):Ex->E AV->E AB->Prop:=λe c f=>match e with
 | .normal=>∃g,d g/\c=h g/\Φ f (i g)
 | .exit j=>∃b,Φ f b/\if j=id then(a .normal (ar 0 N ((lv (.exit j)).zip c)) b).ok Q else(a (.exit j) (ar 0 N ((lv (.exit j)).zip c)) b).ok Q
 | .ret=>∃b,Φ f b/\(a .ret (ar 0 N ((lv .ret).zip c)) b).ok Q
def Dd{Γ:aG}(R:aK θ Γ){id n m m0 N:O}{c:bc}{lv:Ex->E O}{out:dx->am}{σ:Type}(G:σ->E AV)(I:σ->E AB)(Inv:σ->Prop)(L:σ->O)(s0:σ)(Λ:σ->O->χ Sum)(hr:∀e,lW (lv e)=ε)(hm:m0<=m)(h0:Inv s0)(h:∀d Q,(out d).ok Q->∀s,Inv s->dk θ m0 (Λ s) c/\aE (a0 θ Γ n (Λ s) c (ar 0 N ((lv .normal).zip (G s))) (I s) (cw N lv m)) (vW N id lv G I (λP=>Inv P/\L P<L s) d Q)):ck θ m0 (.block id (.loop c)) (bm N (lv .normal) m (G s0) (I s0) out):=by
 intro M S t hM y T H d Q a w z x U W;unfold bm at x;cases A:Ψ T.length N with
 |false=>rw[A]at x;exact x.elim
 |true=>
  rw[A,a6]at x;have A:=cA A;split at x
  ·rename_i p hw
   rcases kT x with⟨hc,X⟩|⟨_,X⟩
   ·obtain⟨hv,B⟩:=IL hc
    have C:=JG hw (hr .normal);rw[A,hv]at C;have D:∀i b,t i=γ b->i<m:=λi b hb=>eN (y i b hb) hm
    have key:∀(r:O)(s:σ)(a:Act)(w:ψ)(z:Nu),Inv s->L s<r->SR M S t (ar 0 N ((lv .normal).zip (G s))) (I s) a w z->a.defers=[]->Code.rounds θ c (pr id (post M S t d Q)) r a w:=by
     intro r;induction r with
     |zero=>intro s a w z _ hlt;omega
     |succ r ih=>
      intro s a w z hi hlt U W;rw[oD];obtain⟨hL,hG⟩:=h d Q X s hi;refine oF (sq R mixed enters n m0 (Λ s) c hL M S t hM y _ _ _ _ a w z hG.out U W) λe a' w' hpp=>?_
      obtain⟨e',T',H',ν',rfl,f,hS',u⟩:=hpp;unfold cw at f;cases l:Ψ T'.length N with
      |false=>rw[l]at f;exact f.elim
      |true=>
       rw[l,a6]at f;have l:=cA l;split at f
       ·rename_i q hwk
        have v:=JG hwk (hr e');rw[l]at v;have o:=n9 v hS' D;cases e' with
        |normal=>obtain⟨P,⟨i',hmu⟩,he,g⟩:=f;rw[he]at o;exact ih P a' w' _ i' (by omega) (o.iB g) u
        |exit j=>
         simp only[Ex.to,Exit.then,pr];obtain⟨H'',g,k⟩:=f;split
         ·rename_i hj
          rw[aU hj]at k;exact⟨.normal,_,_,_,rfl,k,o.iB g,u⟩
         ·rename_i hj
          rw[bI hj]at k;exact⟨.exit j,_,_,_,rfl,k,o.iB g,u⟩
        |ret=>obtain⟨H'',g,k⟩:=f;exact⟨.ret,_,_,_,rfl,k,o.iB g,u⟩
       ·exact f.elim
    have hR0:=(n9 C U D).iB B;exact wp_block (oE (L s0+1) (key _ s0 a w _ h0 (fA _) hR0 W))
   ·exact X.elim
  ·exact x.elim
def dQ{Γ:aG}(f:aK θ Γ){id n m m0 N:O}{c:bc}{lv:Ex->E O}{out:dx->am}(b:O->E AV)(d:O->E AB)(mo:O->Prop)(len:O)(Λ:O->O->χ Sum)(q:∀e,lW (lv e)=ε)(r:m0<=m)(s:mo 0)(h:∀a Q,(out a).ok Q->∀i,mo i->i<=len->dk θ m0 (Λ i) c/\aE (a0 θ Γ n (Λ i) c (ar 0 N ((lv .normal).zip (b i))) (d i) (cw N lv m)) (vW N id lv b d (λo=>o=i+1/\i<len/\mo (i+1)) a Q)):ck θ m0 (.block id (.loop c)) (bm N (lv .normal) m (b 0) (d 0) out):=by
 refine Dd f (n:=n) b d (λi=>mo i/\i<=len) (λi=>len-i) 0 Λ q r ⟨s,ej _⟩ λa Q t i p=>?_
 obtain⟨u,v⟩:=h a Q t i p.1 p.2;refine⟨u,⟨kJ (λe y z g=>?_) v.out⟩⟩;cases e with
 |normal=>obtain⟨o,⟨rfl,k,l⟩,w,x⟩:=g;exact⟨_,⟨⟨l,k⟩,by omega⟩,w,x⟩
 |exit j=>exact g
 |ret=>exact g
def du{a b c:E O}(d:lW a=ε)(f:lW b=ε)(g:lW c=ε):∀e,lW (cj a b c e)=ε
 | .normal=>d
 | .exit _=>f
 | .ret=>g
def ca{Γ:aG}(g:aK θ Γ){fn:cb}{mds:E Md}{a:E SA->χ FR}(i:θ.funcs[I]?=γ fn)(k:fn.body.isSome=ε)(h:∀sas b,a sas=γ b->aJ b.aw=ε->∃(d:E AB)(Λ:O->χ Sum)(n:O),Φ (bO mds sas) d/\(∀c,fn.body=γ c->dk θ d.length Λ c)/\aE (ad θ Γ Λ n fn (ir 0 mds sas) d (ag d.length)) (dX (bJ mds sas b.put) b)):ak θ I (ai mds a):=
 nc enters i k λsas b l m=>by obtain⟨d,Λ,n,o,p,q⟩:=h sas b l m;exact⟨d,o,λM j w t hM r s e=>nz g mixed enters i p hM q.out r s e⟩
structure Cy where
 c0:Z
 c1:Z
 c2:Z
 c3:Z
 c4:Z
 c5:Z
 c6:Z
 c7:Z
 deriving DecidableEq
structure Wh where
 s:Z
 r:Cy
 deriving DecidableEq
def Cy.f(a:Cy):O->Z:=v8 a.c0 a.c1 a.c2 a.c3 a.c4 a.c5 a.c6 a.c7
def bq(f:ao):Cy:=⟨f 0,f 1,f 2,f 3,f 4,f 5,f 6,f 7⟩
def ahJ(a:Cy):bq a.f=a:=rfl
def Vr{f g:O->Z}(h:∀k,k<8->f k=g k):bq f=bq g:=by simp only[bq,h 0 (by omega),h 1 (by omega),h 2 (by omega),h 3 (by omega),h 4 (by omega),h 5 (by omega),h 6 (by omega),h 7 (by omega)]
def gn(a b:Cy):Cy:=bq (rx a.f b.f)
def iN:Cy:=⟨0,0,0,0,0,0,0,0⟩
def bt(a:Cy):ξ:=qi a.f (-1000000) 1000000
def nC(a:Cy):Prop:=∀k,k<8-> -9223372036854775808<=a.f k/\a.f k<=9223372036854775807
def Vp{b:Cy}(h:nC b):gn iN b=b:=by
 rw[<-ahJ b];refine Vr λk a=>?_
 have:=h k a;have e:rx iN.f (bq b.f).f k=W (0+b.f k):=by rcases(by omega:k=0\/k=1\/k=2\/k=3\/k=4\/k=5\/k=6\/k=7)with rfl|rfl|rfl|rfl|rfl|rfl|rfl|rfl<;>rfl
 rw[e,fj,adE]
def eO:E Wh->Wh->E Wh
 |[],w=>[⟨w.s,gn iN w.r⟩]
 |x::l,w=>if x.s=w.s then⟨x.s,gn x.r w.r⟩::l else x::eO l w
def cL:E Wh->Wh->E Wh
 |[],w=>[w]
 |x::l,w=>if x.s<w.s then x::cL l w else if x.s=w.s then⟨x.s,gn x.r w.r⟩::l else w::x::l
def j8(l:E Wh)(s:Z):χ Cy:=(l.find? λx=>κ (x.s=s)).map (·.r)
def ed(l:E Wh)(w:Wh):Cy:=match j8 l w.s with
 |some r=>gn r w.r
 |none=>w.r
def runT(b:E Wh->Wh->E Wh):E Wh->E Wh->χ (E Wh)
 |a,[]=>γ a
 |a,w::c=>if bt (ed a w)=ε then runT b (b a w) c else ζ
def distinct(l:E Wh):Prop:=l.Pairwise λx y=>x.s≠y.s
def rising(l:E Wh):Prop:=l.Pairwise λx y=>x.s<y.s
variable {L:E Wh}
def rising.distinct(h:rising L):distinct L:=List.Pairwise.imp (λh=>by omega) h
def arC{l g:E Wh}(h:l.Perm g)(a:distinct l)(s:Z):j8 l s=j8 g s:=by
 induction h with
 |nil=>rfl
 |cons x _ j=>
  have a:=oj.1 a;simp only[j8,J1];by_cases b:x.s=s
  ·simp[b]
  ·simp only[b,decide_false]
   exact j a.2
 |swap x y l=>have c:=oj.1 a;have d:y.s≠x.s:=c.1 x (by simp);simp only[j8,J1];by_cases b:x.s=s<;>by_cases i:y.s=s<;>simp[b,i];exact(d (i.trans b.symm)).elim
 |trans c k e f=>exact(e a).trans (f (c.pairwise a (λh=>h.symm)))
def alR{w:Wh}(h:∀x∈L,x.s≠w.s):eO L w=L++[⟨w.s,gn iN w.r⟩]:=by
 induction L with
 |nil=>rfl
 |cons y L a=>unfold eO;rw[bI (h y (by simp)),a λx b=>h x (by simp[b])];rfl
def alU{w:Wh}:∀x∈eO L w,x.s=w.s\/x∈L:=by
 induction L with
 |nil=>intro x a;simp[eO]at a;subst a;exact .inl rfl
 |cons y L b=>
  intro x a;unfold eO at a;split at a
  ·rename_i e
   rcases dE.1 a with rfl|a
   ·exact .inl e
   ·exact .inr (by simp[a])
  ·rcases dE.1 a with rfl|a
   ·exact .inr (by simp)
   ·rcases b x a with h|h
    ·exact .inl h
    ·exact .inr (by simp[h])
def alY{w:Wh}:∀x∈cL L w,x.s=w.s\/x∈L:=by
 induction L with
 |nil=>intro x a;simp[cL]at a;subst a;exact .inl rfl
 |cons y L b=>
  intro x a;unfold cL at a;split at a
  ·rcases dE.1 a with rfl|a
   ·exact .inr (by simp)
   ·rcases b x a with h|h
    ·exact .inl h
    ·exact .inr (by simp[h])
  ·split at a
   ·rename_i e
    rcases dE.1 a with rfl|a
    ·exact .inl e
    ·exact .inr (by simp[a])
   ·rcases dE.1 a with rfl|a
    ·exact .inl rfl
    ·exact .inr a
def alP(w:Wh)(h:distinct L):distinct (eO L w):=by
 induction L with
 |nil=>simp[eO,distinct]
 |cons y L d=>
  have b:=oj.1 h;unfold eO;split
  ·exact oj.2 ⟨λx a=>b.1 x a,b.2⟩
  ·rename_i c
   refine oj.2 ⟨λx a=>?_,d b.2⟩;rcases alU x a with e|a
   ·rw[e];exact c
   ·exact b.1 x a
def N2(w:Wh)(h:rising L):rising (cL L w):=by
 induction L with
 |nil=>simp[cL,rising]
 |cons y L d=>
  have b:=oj.1 h;unfold cL;split
  ·rename_i c
   refine oj.2 ⟨λx a=>?_,d b.2⟩;rcases alY x a with e|a
   ·rw[e];exact c
   ·exact b.1 x a
  ·split
   ·exact oj.2 ⟨λx a=>b.1 x a,b.2⟩
   ·rename_i f g
    refine oj.2 ⟨λx a=>?_,h⟩;rcases dE.1 a with rfl|a
    ·omega
    ·have:=b.1 x a
     omega
def alT{w:Wh}(h:distinct L)(c:nC w.r):(eO L w).Perm (⟨w.s,ed L w⟩::L.filter λx=>κ (x.s≠w.s)):=by
 induction L with
 |nil=>simp[eO,ed,j8,Vp c]
 |cons y L d=>
  have b:=oj.1 h;unfold eO;by_cases e:y.s=w.s
  ·rw[aU e]
   have f:(L.filter λx=>κ (x.s≠w.s))=L:=Se.2 λx g=>by have:=b.1 x g;simp only[aL];omega
   have a:ed (y::L) w=gn y.r w.r:=by simp[ed,j8,e]
   rw[Sb (by simp[e]),f,a,e]
  ·rw[bI e]
   have a:ed (y::L) w=ed L w:=by simp[ed,j8,e]
   rw[Sc (by simp[e]),a];exact((d b.2).cons y).trans (adN _ _ _)
def Yb{w:Wh}(h:rising L):(cL L w).Perm (⟨w.s,ed L w⟩::L.filter λx=>κ (x.s≠w.s)):=by
 induction L with
 |nil=>simp[cL,ed,j8]
 |cons y L i=>
  have c:=oj.1 h;unfold cL;by_cases e:y.s=w.s
  ·rw[gc,aU e]
   have d:(L.filter λx=>κ (x.s≠w.s))=L:=Se.2 λx a=>by have:=c.1 x a;simp only[aL];omega
   have f:ed (y::L) w=gn y.r w.r:=by simp[ed,j8,e]
   rw[Sb (by simp[e]),d,f,e]
  ·have f:ed (y::L) w=ed L w:=by simp[ed,j8,e]
   rw[Sc (by simp[e]),f];by_cases b:y.s<w.s
   ·rw[aU b]
    exact((i c.2).cons y).trans (adN _ _ _)
   ·rw[bI b,bI e]
    have g:∀x∈L,x.s≠w.s:=λx a=>by have:=c.1 x a;omega
    have d:(L.filter λx=>κ (x.s≠w.s))=L:=Se.2 λx a=>by simpa using g x a
    have j:ed L w=w.r:=by
     have:(L.find? λx=>κ (x.s=w.s))=ζ:=yc.2 λx a=>by simpa using g x a
     simp[ed,j8,this]
    rw[d,j]
def Nc:∀(ws A B:E Wh),(∀w∈ws,nC w.r)->A.Perm B->distinct A->rising B->match runT eO A ws,runT cL B ws with
  |some d,γ e=>d.Perm e/\distinct d/\rising e
  |none,ζ=>True
  |_,_=>jy
 |[],A,B,_,b,a,c=>⟨b,a,c⟩
 |w::ws,A,B,f,b,a,c=>by
  have g:ed A w=ed B w:=by simp only[ed,arC b a]
  unfold runT;rw[g];by_cases h:bt (ed B w)=ε
  ·simp only[aU h]
   refine Nc ws _ _ (λx i=>f x (by simp[i])) ?_ (alP w a) (N2 w c);refine(alT a (f w (by simp))).trans (List.Perm.trans ?_ (Yb c).symm);rw[g];exact(b.filter _).cons _
  ·simp only[bI h]
def aaS:∀{l a:E Wh},l.Perm a->rising l->rising a->l=a
 |[],a,h,_,_=>(List.Perm.nil_eq h)
 |x::l,[],h,_,_=>by have:=h.length_eq;simp at this
 |x::l,y::a,h,i,j=>by
  have f:=oj.1 i;have g:=oj.1 j;have b:x=y:=by
   have c:x∈y::a:=h.subset (by simp);have d:y∈x::l:=h.symm.subset (by simp);rcases dE.1 c with e|c
   ·exact e
   ·rcases dE.1 d with e|d
    ·exact e.symm
    ·have:=f.1 y d
     have:=g.1 x c;omega
  subst b;rw[aaS (List.Perm.cons_inv h) f.2 g.2]
def bQ(l:E Wh):E Wh:=l.filter λw=>κ (w.r≠iN)
def gp(l:E Wh):ξ:=κ (l.length<=12)&&l.all λw=>aH w.s (-1000) 1000&&bt w.r
def Vs{l c:E Wh}(h:l.Perm c):gp l=gp c:=by
 unfold gp;rw[h.length_eq]
 congr 1
 rw[kg,bT,bT];exact⟨λa x b=>a x (h.symm.subset b),λa x b=>a x (h.subset b)⟩
def iF(ws:E Wh):χ (E Wh):=match runT cL [] ws with
 |some l=>if gp (bQ l)=ε then γ (bQ l)else ζ
 |none=>ζ
def avM{ws A L:E Wh}(g:∀w∈ws,nC w.r)(i:runT eO [] ws=γ A)(j:gp (bQ A)=ε)(b:L.Perm (bQ A))(k:L.Pairwise λx y=>x.s<=y.s):iF ws=γ L:=by
 have:=Nc ws [] [] g (JZ _) yb yb;rw[i]at this;unfold iF;cases c:runT cL [] ws with
 |none=>rw[c]at this;exact this.elim
 |some B=>
  rw[c]at this;obtain⟨d,e,l⟩:=this;have f:(bQ A).Perm (bQ B):=d.filter _;simp only;rw[aU (by rw[<-Vs f];exact j)]
  congr 1
  have m:distinct L:=List.Perm.pairwise b.symm (adM _ e) (λh=>h.symm);have a:rising L:=by refine List.Pairwise.imp₂ (λx y d e=>?_) k m;omega
  exact(aaS (b.trans f) a (adM _ l)).symm
def acg(b:∀w∈L,nC w.r)(h:runT eO [] L=ζ\/∃A,runT eO [] L=γ A/\gp (bQ A)=η):iF L=ζ:=by
 have:=Nc L [] [] b (JZ _) yb yb;unfold iF;rcases h with h|⟨A,c,d⟩
 ·rw[h]at this
  cases a:runT cL [] L with
  |none=>rfl
  |some B=>rw[a]at this;exact this.elim
 ·rw[c]at this
  cases a:runT cL [] L with
  |none=>rfl
  |some B=>rw[a]at this;obtain⟨e,_,_⟩:=this;have f:(bQ A).Perm (bQ B):=e.filter _;simp only;rw[bI (by rw[<-Vs f,d];simp)]
def gW(L:E Wh)(k:O):Z:=match L[k]?with
 |some w=>w.s
 |none=>0
def lg:E Wh->O->E Wh
 |x::y::l,0=>y::x::l
 |x::l,j+1=>x::lg l j
 |l,_=>l
def Q4:∀(L:E Wh)(j:O),(lg L j).Perm L
 |[],_=>by simp[lg]
 |[_],0=>by simp[lg]
 |[_],j+1=>by simp[lg]
 |x::y::l,0=>adN _ _ _
 |x::y::l,j+1=>by simp only[lg];exact(Q4 (y::l) j).cons x
def abW(L:E Wh)(j:O):(lg L j).length=L.length:=(Q4 L j).length_eq
def Q3:∀(L:E Wh)(j k:O),j+1<L.length->(lg L j)[k]?=if k=j then L[j+1]?else if k=j+1 then L[j]?else L[k]?
 |[],j,k,h=>by simp at h
 |[_],j,k,h=>by simp at h
 |x::y::l,0,k,_=>by
  simp only[lg]
  match k with
  |0=>simp
  |1=>simp
  |k+2=>simp
 |x::y::l,j+1,k,h=>by
  simp only[lg];have a:=Q3 (y::l) j;cases k with
  |zero=>simp
  |succ k=>simpa using a k (by simpa using h)
def abD(h:i+1<L.length)(k:O):gW (lg L i) k=if k=i then gW L (i+1)else if k=i+1 then gW L i else gW L k:=by
 unfold gW;rw[Q3 L i k h];by_cases a:k=i
 ·simp only[aU a]
 ·simp only[bI a]
  by_cases b:k=i+1
  ·simp only[aU b]
  ·simp only[bI b]
def lf:O->E Wh->E Wh
 |0,L=>L
 |j+1,L=>if gW L (j+1)<gW L j then lf j (lg L j)else L
def abx:∀(j:O)(L:E Wh),(lf j L).Perm L
 |0,L=>JZ _
 |j+1,L=>by
  unfold lf;split
  ·exact(abx j _).trans (Q4 L j)
  ·exact JZ _
def IX(L:E Wh)(i j:O):Prop:=∀a b,a<b->b<=i->b≠j->gW L a<=gW L b
def IY(L:E Wh)(n:O):Prop:=∀a b,a<b->b<n->gW L a<=gW L b
def aq5{i j:O}(r:i<L.length)(s:j+1<=i)(h:IX L i (j+1))(l:gW L (j+1)<gW L j):IX (lg L j) i j:=by
 intro a b g c k;rw[abD (by omega),abD (by omega)];have m:a<j->gW L a<=gW L j:=λ_=>h a j (by omega) (by omega) (by omega)
 have n:j+1<b->gW L j<=gW L b:=λ_=>h j b (by omega) c (by omega)
 have o:j+1<b->gW L (j+1)<=gW L b:=λ_=>h (j+1) b (by omega) c (by omega)
 have p:b≠j+1->gW L a<=gW L b:=λq=>h a b g c q
 rw[bI k];by_cases d:b=j+1
 ·rw[aU d]
  by_cases e:a=j
  ·rw[aU e];omega
  ·rw[bI e,gc]
   exact m (by omega)
 ·rw[bI d]
  by_cases e:a=j
  ·rw[aU e]
   exact o (by omega)
  ·rw[bI e]
   by_cases f:a=j+1
   ·rw[aU f]
    exact n (by omega)
   ·rw[bI f]
    exact p d
def aal{i j:O}(g:j<=i)(h:IX L i j)(c:j=0\/gW L (j-1)<=gW L j):IY L (i+1):=by
 intro a b e k;by_cases d:b=j
 ·subst d
  rcases c with l|c
  ·omega
  ·by_cases f:a=b-1
   ·subst f
    exact c
   ·exact Int.le_trans (h a (b-1) (by omega) (by omega) (by omega)) c
 ·exact h a b e (by omega) d
def abw:∀(j:O)(L:E Wh)(i:O),i<L.length->j<=i->IX L i j->IY (lf j L) (i+1)
 |0,L,i,b,a,h=>aal a h (.inl rfl)
 |j+1,L,i,b,a,h=>by
  unfold lf;split
  ·rename_i c
   exact abw j _ i (by rw[abW];exact b) (by omega) (aq5 b a h c)
  ·rename_i d
   exact aal a h (.inr (by simp only[Sq];omega))
def rD(L:E Wh):O->E Wh
 |0=>L
 |n+1=>lf n (rD L n)
def Jm(L:E Wh):∀n,(rD L n).Perm L
 |0=>JZ _
 |n+1=>(abx n _).trans (Jm L n)
def abA(L:E Wh):∀n,n<=L.length->IY (rD L n) n
 |0,_=>λa b _ h=>by omega
 |n+1,h=>by
  refine abw n _ n (by rw[(Jm L n).length_eq];omega) (aQ _) λa b c e d=>?_
  exact abA L n (by omega) a b c (by omega)
def aq_(h:IY L L.length):L.Pairwise λx y=>x.s<=y.s:=by rw[List.pairwise_iff_getElem];intro i j c b a;have:=h i j a b;simpa[gW,c,b]using this
def l0(L:E Wh):E Wh:=rD L L.length
def QJ(L:E Wh):(l0 L).Perm L:=Jm L _
def at9(L:E Wh):(l0 L).Pairwise λx y=>x.s<=y.s:=aq_ (by have:=abA L L.length (aQ _);rw[show(l0 L).length=L.length from(QJ L).length_eq];exact this)
def avL(b:∀w∈L,nC w.r):(match runT eO [] L with
  |some A=>if gp (bQ A)=ε then γ (l0 (bQ A))else ζ
  |none=>ζ)=iF L:=by
 cases c:runT eO [] L with
 |none=>exact(acg b (.inl c)).symm
 |some A=>
  simp only;by_cases a:gp (bQ A)=ε
  ·rw[aU a]
   exact(avM b c a (QJ _) (at9 _)).symm
  ·rw[bI a]
   exact(acg b (.inr ⟨A,c,by simpa using a⟩)).symm
abbrev J(f:Θ):O->E τ:=λj=>[ι (f j 0),ι (f j 1),ι (f j 2),ι (f j 3),ι (f j 4),ι (f j 5),ι (f j 6),ι (f j 7),ι (f j 8)]
def Yl:E τ->ξ
 |[.int .i64 _,.int .i64 _,.int .i64 _,.int .i64 _,.int .i64 _,.int .i64 _,.int .i64 _,.int .i64 _,.int .i64 _]=>ε
 |_=>η
def ο(g:O->E τ):O->O->Z:=λj k=>intOf ((g j).getD k undef)
def aF(m:O)(g:O->E τ):ξ:=(dK m).all λj=>Yl (g j)
variable {p:O->E τ}
def a7(h:aF i p=ε)(j:O)(a:j<i):p j=J (ο p) j:=by
 have:=bT.1 h j (by simpa using a);simp only[J,ο,ι];unfold Yl at this;split at this
 ·rename_i e;rw[e];rfl
 ·cases this
def afc{f:O->O->Z}(h:∀j,j<i->p j=J f j):aF i p=ε:=bT.2 λj a=>by rw[h j (by simpa using a)];rfl
def dn(m:O)(f:Θ):aF m (J f)=ε:=afc (f:=f) λ_ _=>rfl
def bh(f:ao):Wh:=⟨f 0,⟨f 1,f 2,f 3,f 4,f 5,f 6,f 7,f 8⟩⟩
def eM(w:Wh):O->Z
 |0=>w.s
 |1=>w.r.c0
 |2=>w.r.c1
 |3=>w.r.c2
 |4=>w.r.c3
 |5=>w.r.c4
 |6=>w.r.c5
 |7=>w.r.c6
 |8=>w.r.c7
 |_=>0
def V(f:Θ)(m:O):E Wh:=(dK m).map λj=>bh (f j)
def Y(L:E Wh):O->O->Z:=λj k=>match L[j]?with
 |some w=>eM w k
 |none=>0
def cR(f:Θ)(m:O):(V f m).length=m:=by simp[V]
def o4(f:Θ){m j:O}(a:j<m):(V f m)[j]?=γ (bh (f j)):=by simp[V,a]
def Jb{f g:O->O->Z}(h:∀k,k<9->f i k=g i k):J f i=J g i:=by simp only[J,h 0 (by omega),h 1 (by omega),h 2 (by omega),h 3 (by omega),h 4 (by omega),h 5 (by omega),h 6 (by omega),h 7 (by omega),h 8 (by omega)]
def aa5(f:Θ){m j:O}(a:j<m):J (Y (V f m)) j=J f j:=by
 refine Jb λk b=>?_
 simp only[Y,o4 f a];rcases(by omega:k=0\/k=1\/k=2\/k=3\/k=4\/k=5\/k=6\/k=7\/k=8)with rfl|rfl|rfl|rfl|rfl|rfl|rfl|rfl|rfl<;>rfl
def ayB(w:Wh):bh (eM w)=w:=rfl
def uH(L:E Wh):V (Y L) L.length=L:=by
 apply Sa;intro j;by_cases a:j<L.length
 ·rw[o4 _ a,df a]
  have:Y L j=eM L[j]:=by
   funext k
   simp only[Y,df a]
  rw[this,ayB]
 ·rw[nk (by rw[cR];omega),nk (by omega)]
def cZ(f:Θ)(m:O):V (ο (J f)) m=V f m:=rfl
def iQ(f:Θ)(m:O):V f (m+1)=V f m++[bh (f m)]:=by simp[V,J9]
def fu{bs:E ξ}{r:am}(k:aE r Q)(h:aJ bs=ε:=by simp only[Ω,ax,aj,aL,bl,dn,bv]<;>omega):aE (Ξ bs r) Q:=aq h k
def awu(a:ao):let b:=[vB η];let c:=(-1000000:Z);let d:=(1000000:Z);ad θ nH K 100 f167 ([dA a].map .v) [] dR
 =bif !aH (a 0) c d then rO b []else bif !aH (a 1) c d then rO b []else bif !aH (a 2) c d then rO b []else bif !aH (a 3) c d then rO b []else bif !aH (a 4) c d then rO b []else bif !aH (a 5) c d then rO b []else bif !aH (a 6) c d then rO b []else bif !aH (a 7) c d then rO b []else rO [vB ε] []:=by intros;kernel_rfl
def Cz:E τ->χ (τ×E ξ)
 |[.agg ⟨[.int .i64 a,.int .i64 b,.int .i64 c,.int .i64 d,.int .i64 e,.int .i64 f,.int .i64 g,.int .i64 h]⟩]=>γ (.bool (bt ⟨a,b,c,d,e,f,g,h⟩),[])
 |_=>ζ
def D5:ak θ 167 (aW Cz):=by
 refine et (n:=100) qT func167 rfl λj v k a l=>?_
 unfold Cz at a;split at a
 ·rename_i b c d e f g h i
  cases a;show Good (ad θ nH K 100 f167 ([dA (v8 b c d e f g h i)].map .v) [] dR) _
  rw[awu];exact uy (by simp only[xe,uQ,B',Mb,bt,Cy.f,qi])
 ·cases a
def nF(a:(O->Z)->ξ):E τ->χ (τ×E ξ)
 |[.agg ⟨[.int .i64 b,.int .i64 c,.int .i64 d,.int .i64 e,.int .i64 f,.int .i64 g,.int .i64 h,.int .i64 i]⟩]=>γ (.bool (a (v8 b c d e f g h i)),[])
 |_=>ζ
def MD(a:(O->Z)->Z->(O->Z)->O->Z):E τ->χ (τ×E ξ)
 |[.agg ⟨[.int .i64 b,.int .i64 c,.int .i64 d,.int .i64 e,.int .i64 f,.int .i64 g,.int .i64 h,.int .i64 i]⟩,.int .i64 n,.agg ⟨[.int .i64 j,.int .i64 k,.int .i64 l,.int .i64 m,.int .i64 o,.int .i64 p,.int .i64 q,.int .i64 r]⟩]=>γ (dA (a (v8 b c d e f g h i) n (v8 j k l m o p q r)),[])
 |_=>ζ
def Hx(a:(O->Z)->ξ)(b:(O->Z)->Z->(O->Z)->O->Z):aG:=ext (ext g0 167 (aW (nF a))) 239 (aW (MD b))
abbrev Rz(w:ao):τ:=.agg #[.int .i64 (w 0),.int .i64 (w 1),.int .i64 (w 2),.int .i64 (w 3),.int .i64 (w 4),.int .i64 (w 5),.int .i64 (w 6),.int .i64 (w 7),.int .i64 (w 8)]
abbrev whC(w:ao):E AV:=[.v (ι (w 0)),.v (ι (w 1)),.v (ι (w 2)),.v (ι (w 3)),.v (ι (w 4)),.v (ι (w 5)),.v (ι (w 6)),.v (ι (w 7)),.v (ι (w 8))]
abbrev Df:Ex->E O:=cj [0,3,6] [0,3,6] [4,5]
abbrev wE(m:O)(f:Θ)(w:ao)(t:ae):E AB:=[.row η m 9 (J f) t,.cells (whC w) 123]
abbrev Ez(m i:O):E AV:=[.sl 0 9 0 0 m ζ,.ptr 1 0 0 0,.v (ι i)]
def ar9(m:O)(f:Θ)(w:ao)(t:ae)(i:O):let b:=[AB.row η m 9 (J f) t,AB.cells [vI (w 0),vI (w 1),vI (w 2),vI (w 3),vI (w 4),vI (w 5),vI (w 6),vI (w 7),vI (w 8)] 123];let a:=(↑i:Z);let c:=AV.sl 0 9 0 0 m ζ;let d:=[c,AV.ptr 1 0 0 0,vI a];a0 θ g0 100 K (a5 0 S3) (ar 0 75 ((Df .normal).zip (Ez m i))) (wE m f w t) (cw 75 Df 1)
 =bif κ (a<(m:Z))then Ξ [κ (a<(m:Z)),κ (0+aT a<m)] (bif κ (f (0+aT a) 0<w 0)then am.out .normal [c,AV.ptr 1 0 0 0,vI (aa .i64 (a+(1:Z)))] b else am.out (Ex.exit 0) d b)else am.out (Ex.exit 0) d b:=by intros;kernel_rfl
noncomputable abbrev Oh(m:O)(f:Θ)(w:ao)(t:ae)(k:O):O->χ Sum:=bX 0 (bm 75 (Df .normal) 1 (Ez m 0) (wE m f w t) (λa=>a .normal (ar 0 75 [(0,.sl 0 9 0 0 m ζ),(3,.ptr 1 0 0 0),(6,.v (ι k))]) (wE m f w t)))
def awf(z:(O->Z)->ξ)(g:(O->Z)->Z->(O->Z)->O->Z)(m:O)(f:Θ)(w:ao)(t:ae)(k:O):let c:=(↑k:Z);let h:=(v8 (w 1) (w 2) (w 3) (w 4) (w 5) (w 6) (w 7) (w 8));let b:=(aT c);let o:=(0+(aT c-0));let e:=(0+aT c);let a:=(1:Z);let i:=(m:Z);let p:=AB.row η m 9 (J f) t;let r:=κ (i<=i);let u:=κ (aT c<0+m);let v:=κ (0+aT c<m);let s:=(c-(0:Z));let n:=(0+m);let x:=κ (c<=i);let j:=(v8 (f e 1) (f e 2) (f e 3) (f e 4) (f e 5) (f e 6) (f e 7) (f e 8));let d:=(0+aT s+1);let l:=(0+aT s);let A:=(0+aT s+1+aT (i-c));let y:=κ (c<(↑n:Z));let B:=(rO [AV.af [AV.own 1 A,AV.v (.bool (z h))]] [p,AB.row ε A 9 (λq=>[ι (bif ω q d then bif ω q l then f (0+(q-0)) 0 else w 0 else f (0+aT c+(q-d)) 0),ι (bif ω q d then bif ω q l then f (0+(q-0)) 1 else w 1 else f (0+aT c+(q-d)) 1),ι (bif ω q d then bif ω q l then f (0+(q-0)) 2 else w 2 else f (0+aT c+(q-d)) 2),ι (bif ω q d then bif ω q l then f (0+(q-0)) 3 else w 3 else f (0+aT c+(q-d)) 3),ι (bif ω q d then bif ω q l then f (0+(q-0)) 4 else w 4 else f (0+aT c+(q-d)) 4),ι (bif ω q d then bif ω q l then f (0+(q-0)) 5 else w 5 else f (0+aT c+(q-d)) 5),ι (bif ω q d then bif ω q l then f (0+(q-0)) 6 else w 6 else f (0+aT c+(q-d)) 6),ι (bif ω q d then bif ω q l then f (0+(q-0)) 7 else w 7 else f (0+aT c+(q-d)) 7),ι (bif ω q d then bif ω q l then f (0+(q-0)) 8 else w 8 else f (0+aT c+(q-d)) 8)]) 123]);let C:=[x,r,Δ l 549755813888,Δ l m,Δ l l,Δ d 549755813888,x,r,r,Δ d d,Δ A 549755813888,Δ (0+aT c+aT (i-c)) m];ad θ (Hx z g) (Oh m f w t k) 100 S3 [.sl 0 9 0 0 m ζ,.v (Rz w)] [.row η m 9 (J f) t] (ag 1)
 =Ξ [cy ([AV.sl 0 9 0 0 m ζ,AV.ptr 1 0 0 0,vI 0]=Ez m 0/\Φ [p,AB.cells [vI (w 0),vI (w 1),vI (w 2),vI (w 3),vI (w 4),vI (w 5),vI (w 6),vI (w 7),vI (w 8)] 123] (wE m f w t))] (bif κ (c<i)then Ξ [κ (c<i),v] (bif f e 0==w 0 then Ξ [Δ n 549755813888,Δ n m,κ (c<i),v,y,u,y,u] (rO [AV.af [AV.own 1 n,AV.v (.bool (z (v8 (bif Ψ b b then g j a h 0 else f o 1) (bif Ψ b b then g j a h 1 else f o 2) (bif Ψ b b then g j a h 2 else f o 3) (bif Ψ b b then g j a h 3 else f o 4) (bif Ψ b b then g j a h 4 else f o 5) (bif Ψ b b then g j a h 5 else f o 6) (bif Ψ b b then g j a h 6 else f o 7) (bif Ψ b b then g j a h 7 else f o 8))))]] [p,AB.row ε n 9 (λq=>[ι (bif Ψ q b then f o 0 else f (0+(q-0)) 0),ι (bif Ψ q b then g j a h 0 else f (0+(q-0)) 1),ι (bif Ψ q b then g j a h 1 else f (0+(q-0)) 2),ι (bif Ψ q b then g j a h 2 else f (0+(q-0)) 3),ι (bif Ψ q b then g j a h 3 else f (0+(q-0)) 4),ι (bif Ψ q b then g j a h 4 else f (0+(q-0)) 5),ι (bif Ψ q b then g j a h 5 else f (0+(q-0)) 6),ι (bif Ψ q b then g j a h 6 else f (0+(q-0)) 7),ι (bif Ψ q b then g j a h 7 else f (0+(q-0)) 8)]) 123])else Ξ C B)else Ξ C B):=by intros;kernel_rfl
def dp:E Wh->Z->O
 |[],_=>0
 |x::l,s=>if x.s<s then dp l s+1 else 0
def lU:E Wh->Wh->ξ
 |[],w=>bt w.r
 |x::l,w=>if x.s<w.s then lU l w else if x.s=w.s then bt (gn x.r w.r)else bt w.r
def amf(l:E Wh)(s:Z):dp l s<=l.length:=by
 induction l with
 |nil=>simp[dp]
 |cons x l a=>unfold dp;split<;>simp only[bZ]<;>omega
def amg{l:E Wh}{s:Z}{j:O}(h:j<dp l s){x:Wh}(a:l[j]?=γ x):x.s<s:=by
 induction l generalizing j with
 |nil=>simp at a
 |cons y l b=>
  unfold dp at h;split at h
  ·rename_i c
   cases j with
   |zero=>simp at a;subst a;exact c
   |succ j=>exact b (j:=j) (by omega) (by simpa using a)
  ·omega
variable {A:Z}
def amh{x:Wh}(a:L[dp L A]?=γ x):¬x.s<A:=by
 induction L with
 |nil=>simp at a
 |cons y L b=>
  unfold dp at a;split at a
  ·exact b (by simpa using a)
  ·rename_i c
   simp at a;subst a;exact c
def alZ{w x:Wh}(a:L[dp L w.s]?=γ x)(c:x.s=w.s):(cL L w).length=L.length/\(∀j,(cL L w)[j]?=if j=dp L w.s then γ ⟨x.s,gn x.r w.r⟩else L[j]?)/\lU L w=bt (gn x.r w.r):=by
 induction L with
 |nil=>simp at a
 |cons y L d=>
  by_cases b:y.s<w.s
  ·simp only[dp,cL,lU,aU b]at a⊢
   obtain⟨e,f,g⟩:=d (by simpa using a);refine⟨by simp[e],λj=>?_,g⟩;cases j with
   |zero=>simp
   |succ j=>simpa using f j
  ·simp only[dp,bI b]at a
   simp at a;subst a;simp only[dp,cL,lU,bI b,aU c];refine⟨by simp,λj=>?_,trivial⟩;cases j<;>simp
def alW{w:Wh}(h:∀x,L[dp L w.s]?=γ x->x.s≠w.s):(cL L w).length=L.length+1/\(∀j,(cL L w)[j]?=if j<dp L w.s then L[j]?else if j=dp L w.s then γ w else L[j-1]?)/\lU L w=bt w.r:=by
 induction L with
 |nil=>refine⟨rfl,λj=>?_,rfl⟩;cases j<;>simp[dp,cL]
 |cons y L e=>
  by_cases c:y.s<w.s
  ·simp only[dp,cL,lU,aU c]at h⊢
   obtain⟨a,b,f⟩:=e (λx g=>h x (by simpa using g));refine⟨by simp[a],λj=>?_,f⟩;cases j with
   |zero=>simp
   |succ j=>
    have:=b j;simp only[vq,this,Nat.add_lt_add_iff_right,Nat.add_right_cancel_iff,Sq];by_cases a:j<dp L w.s
    ·simp[a]
    ·by_cases b:j=dp L w.s
     ·simp[b]
     ·have:j≠0:=by omega
      obtain⟨i,rfl⟩:=Nat.exists_eq_succ_of_ne_zero this;simp[a,b]
  ·have d:y.s≠w.s:=h y (by simp[dp,c])
   simp only[dp,cL,lU,bI c,bI d];refine⟨by simp,λj=>?_,trivial⟩;cases j<;>simp
def aoF(h:rising L)(w:Wh):lU L w=bt (ed L w):=by
 induction L with
 |nil=>rfl
 |cons y L e=>
  have c:=oj.1 h;by_cases d:y.s<w.s
  ·have:ed (y::L) w=ed L w:=by
    have a:y.s≠w.s:=by omega
    simp[ed,j8,a]
   rw[this,lU,aU d,e c.2]
  ·by_cases b:y.s=w.s
   ·simp[lU,ed,j8,b]
   ·have:ed (y::L) w=w.r:=by
     have f:(L.find? λx=>κ (x.s=w.s))=ζ:=by rw[yc];intro x g;have:=c.1 x g;simp only[aL];omega
     simp[ed,j8,b,f]
    rw[this];simp[lU,d,b]
def bV(bad:O->ξ)(n:O):ξ:=(dK n).all λj=> !bad j
def ro{bad:O->ξ}(h:bV bad i=ε)(a:bad i=η):bV bad (i+1)=ε:=by unfold bV at*;rw[J9,gM,h];simp[a]
def wZ{bad:O->ξ}{n j:O}(h:bV bad n=ε)(a:j<n):bad j=η:=by have:=bT.1 h j (by simpa using a);simpa using this
def o5{bad:O->ξ}{n j:O}(b:j<n)(a:bad j=ε):bV bad n=η:=by
 cases h:bV bad n with
 |false=>rfl
 |true=>rw[wZ h b]at a;cases a
def rn{bad:O->ξ}:bV bad i=ε↔∀a,a<i->bad a=η:=by simp[bV]
def bz{x:Z}(h: -9223372036854775808<=x/\x<=9223372036854775807:=by omega):aa aY x=x:=fj h.1 h.2
def auB(m:O)(f:Θ)(w:ao)(t:ae)(k:O)(r:m<=2^40)(s:k<=m)(l:∀j,j<k->f j 0<w 0)(o:k<m->¬f k 0<w 0):ck θ 1 (.block 0 (.loop (a5 0 S3))) (bm 75 (Df .normal) 1 (Ez m 0) (wE m f w t) (λa=>a .normal (ar 0 75 [(0,.sl 0 9 0 0 m ζ),(3,.ptr 1 0 0 0),(6,.v (ι k))]) (wE m f w t))):=by
 refine dQ ba (n:=100) (m:=1) (lv:=Df) (λi=>Ez m i) (λ_=>wE m f w t) (λi=>i<=k) m (λ_=>K) (du rfl rfl rfl) (aQ _) (ej _) λa Q g i v p=>⟨cN _ _ _,?_⟩
 rw[ar9];refine aD (λc=>?_) λc=>?_
 ·have c:=aV c
  have d:i<m:=by omega
  rw[cV,bH,show aa aY ((i:Z)+1)=(i:Z)+1 from fj];refine c_ (aD (λb=>?_) λb=>?_)
  ·have b:=aV b
   have q:i≠k:=λe=>o (by omega) (e▸b)
   exact F ⟨i+1,⟨rfl,d,by omega⟩,rfl,Φ.refl _⟩
  ·have b:=cu b
   have:i=k:=by
    rcases om i k with h|h
    ·exact(b (l i h)).elim
    ·omega
   subst this;exact F ⟨_,Φ.refl _,by rw[aU rfl];exact g⟩
 ·have c:=cu c
  have:i=k:=by omega
  subst this;exact F ⟨_,Φ.refl _,by rw[aU rfl];exact g⟩
def qP:nF (λv=>bt (bq v))=Cz:=by
 funext l
 rfl
def VS:MD mA=G':=by
 funext l
 rfl
def akE:aK θ (Hx (λv=>bt (bq v)) mA):=by unfold Hx;rw[qP,VS];exact az (az ba D5) PF
def ahK(a b:ao):bq (mA a 1 b)=bq (rx a b):=Vr λk _=>by simp only[mA,rx,xW]
def dl:E Md:=[.rd 9 123,.val]
def KP:E SA->χ FR
 |[.row m g,.v (.agg ⟨[.int .i64 a,.int .i64 b,.int .i64 c,.int .i64 d,.int .i64 w4,.int .i64 e,.int .i64 f,.int .i64 h,.int .i64 w8]⟩)]=>
  γ {val:=.af [.own 0 (cL (V (ο g) m) ⟨a,⟨b,c,d,w4,e,f,h,w8⟩⟩).length,.v (.bool (lU (V (ο g) m) ⟨a,⟨b,c,d,w4,e,f,h,w8⟩⟩))],
      new:=[.row ε (cL (V (ο g) m) ⟨a,⟨b,c,d,w4,e,f,h,w8⟩⟩).length 9 (J (Y (cL (V (ο g) m) ⟨a,⟨b,c,d,w4,e,f,h,w8⟩⟩))) 123],aw:=[aF m g,κ (m<=2^38)]}
 |_=>ζ
def apV:ak θ 236 (ai dl KP):=by
 refine ca akE func236 rfl λsas fr z U=>?_
 unfold KP at z;split at z
 ·rename_i m g B C D H w4 I M N w8
  cases z;simp only[Ω]at U;obtain⟨X,h2,_⟩:=U;have hm:=aV h2;generalize P:(⟨B,⟨C,D,H,w4,I,M,N,w8⟩⟩:Wh)=W;generalize hL:V (ο g) m=L;have k:L.length=m:=by rw[<-hL,cR]
  have Q:dp L W.s<=m:=by rw[<-k];exact amf _ _
  have d:∀j,j<m->L[j]?=γ (bh (ο g j)):=λj a=>by rw[<-hL,o4 _ a]
  have R:∀j,j<dp L W.s->ο g j 0<eM W 0:=λj a=>amg a (d j (by omega))
  have S:dp L W.s<m->¬ο g (dp L W.s) 0<eM W 0:=λh=>amh (d _ h)
  refine⟨[.row η m 9 (J (ο g)) 123],Oh m (ο g) (eM W) 123 (dp L W.s),100,.cons (ab.row λj a=>a7 X j a) .nil,da (auB m (ο g) (eM W) 123 _ (by omega) Q R S),?_⟩;have hv:([.sl 0 9 0 0 m ζ,.v (Rz (eM W))]:E AV)=ir 0 dl [.row m g,.v (.agg ⟨[.int .i64 B,.int .i64 C,.int .i64 D,.int .i64 H,.int .i64 w4,.int .i64 I,.int .i64 M,.int .i64 N,.int .i64 w8]⟩)]:=by rw[<-P];rfl
  rw[<-hv];show aE (ad θ (Hx (λv=>bt (bq v)) mA) (Oh m (ο g) (eM W) 123 (dp L W.s)) 100 S3 [.sl 0 9 0 0 m ζ,.v (Rz (eM W))] [.row η m 9 (J (ο g)) 123] (ag 1)) _
  rw[awf];simp only[cV,bH,Bu,adB,kr,a6];have l:∀(n:O)(b:ξ)(G:O->E τ),n=(cL L W).length->b=lU L W->(∀j,j<n->G j=J (Y (cL L W)) j)->aE (.out .ret [.af [.own 1 n,.v (.bool b)]] [.row η m 9 (J (ο g)) 123,.row ε n 9 G 123])
    (dX (bJ dl [.row m g,.v (.agg ⟨[.int .i64 B,.int .i64 C,.int .i64 D,.int .i64 H,.int .i64 w4,.int .i64 I,.int .i64 M,.int .i64 N,.int .i64 w8]⟩)] []) {val:=.af [.own 0 (cL L W).length,.v (.bool (lU L W))],new:=[.row ε (cL L W).length 9 (J (Y (cL L W))) 123],aw:=[aF m g,κ (m<=2^38)]}):=by
   rintro n b G rfl rfl hG;exact F ⟨_,rfl,rfl,.cons (ab.row λj a=>(a7 X j a).symm) (.cons (ab.row hG) .nil)⟩
  have o:(∀x,L[dp L W.s]?=γ x->x.s≠W.s)->(cL L W).length=m+1/\lU L W=bt W.r/\∀j,j<m+1->∀i,i<9->(bif ω j (dp L W.s+1)then bif ω j (dp L W.s)then ο g j i else eM W i else ο g (dp L W.s+(j-(dp L W.s+1))) i)=Y (cL L W) j i:=by
   intro hn;obtain⟨p,c,r⟩:=alW hn;refine⟨by rw[p,k],r,λj a i hi=>?_⟩;have w:∀q:O,q<m->eM (bh (ο g q)) i=ο g q i:=λq _=>by rcases(by omega:i=0\/i=1\/i=2\/i=3\/i=4\/i=5\/i=6\/i=7\/i=8)with rfl|rfl|rfl|rfl|rfl|rfl|rfl|rfl|rfl<;>rfl
   rcases vw j (dp L W.s)with h|h|h
   ·have s:ω j (dp L W.s+1)=ε:=by rw[bM];omega
    have T:ω j (dp L W.s)=ε:=by rw[bM];omega
    simp only[Y,c j,aU h,s,T,a6,d j (by omega),w j (by omega)]
   ·have s:ω j (dp L W.s+1)=ε:=by rw[bM];omega
    have T:ω j (dp L W.s)=η:=by rw[<-E',bM];omega
    simp only[Y,c j,bI (show ¬j<dp L W.s by omega),aU h,s,T,a6,be]
   ·have s:ω j (dp L W.s+1)=η:=by rw[<-E',bM];omega
    have e:dp L W.s+(j-(dp L W.s+1))=j-1:=by omega
    simp only[Y,c j,bI (show ¬j<dp L W.s by omega),bI (show ¬j=dp L W.s by omega),s,be,e,d (j-1) (by omega),w (j-1) (by omega)]
  refine aq (by rw[Ω];exact⟨cG ⟨rfl,Φ.refl _⟩,rfl⟩) (aD (λy=>?_) λy=>?_)
  ·have y:=aV y
   have t:dp L W.s<m:=by omega
   refine c_ (aD (λu=>?_) λu=>?_)
   ·have u:ο g (dp L W.s) 0=W.s:=by simpa[eM]using u
    obtain⟨p,c,r⟩:=alZ (d _ t) u;refine c_ (l _ _ _ (by rw[p,k]) ?_ λj a=>?_)
    ·rw[r]
     show bt (bq (mA _ 1 _))=bt (bq (rx _ _))
     rw[ahK];rfl
    ·by_cases f:j=dp L W.s
     ·have e4:=c j
      rw[aU f,f]at e4;simp only[J,Y,f,e4,kr,a6,mA,xW];rfl
     ·have s:Ψ j (dp L W.s)=η:=by
       cases hb:Ψ j (dp L W.s)with
       |false=>rfl
       |true=>exact(f (cA hb)).elim
      simp only[J,Y,c j,bI f,s,be,d j a];rfl
   ·have u:ο g (dp L W.s) 0≠W.s:=by simpa[eM]using u
    obtain⟨p,r,c⟩:=o λx A=>by rw[d _ t]at A;cases A;exact u
    refine c_ (l _ _ _ (by rw[p];omega) (by rw[r,<-P];rfl) λj a=>?_);have a:j<m+1:=by omega
    simp only[J,c j a 0 (by omega),c j a 1 (by omega),c j a 2 (by omega),c j a 3 (by omega),c j a 4 (by omega),c j a 5 (by omega),c j a 6 (by omega),c j a 7 (by omega),c j a 8 (by omega),ι]
  ·have y:=cu y
   have t:¬dp L W.s<m:=by omega
   obtain⟨p,r,c⟩:=o λx A=>by have:=(fY.1 A).1;omega
   refine c_ (l _ _ _ (by rw[p];omega) (by rw[r,<-P];rfl) λj a=>?_);have a:j<m+1:=by omega
   simp only[J,c j a 0 (by omega),c j a 1 (by omega),c j a 2 (by omega),c j a 3 (by omega),c j a 4 (by omega),c j a 5 (by omega),c j a 6 (by omega),c j a 7 (by omega),c j a 8 (by omega),ι]
 ·cases z
def zw(a:(O->Z)->ξ):aG:=ext nH 167 (aW (nF a))
abbrev zO:Ex->E O:=cj [0,3] [] [2]
abbrev nL(m:O)(f:Θ)(t:ae):E AB:=[.row η m 9 (J f) t]
abbrev AH(m i:O):E AV:=[.sl 0 9 0 0 m ζ,.v (ι i)]
def ass(d:(O->Z)->ξ)(m:O)(f:Θ)(t:ae)(i:O):let c:=[AB.row η m 9 (J f) t];let b:=(↑i:Z);let e:=[vB η];let a:=(0+aT b);let g:=[κ (b<(m:Z)),κ (0+aT b<m)];a0 θ (zw d) 100 K (a5 0 SS) (ar 0 29 ((zO .normal).zip (AH m i))) (nL m f t) (cw 29 zO 1)
 =bif κ (b<(m:Z))then Ξ g (bif !aH (f a 0) (-1000:Z) (1000:Z)then rO e c else Ξ g (bif !d (v8 (f a 1) (f a 2) (f a 3) (f a 4) (f a 5) (f a 6) (f a 7) (f a 8))then rO e c else am.out .normal [AV.sl 0 9 0 0 m ζ,vI (aa .i64 (b+(1:Z)))] c))else am.out (Ex.exit 0) [] c:=by intros;kernel_rfl
noncomputable abbrev Oq(m:O)(f:Θ)(t:ae)(bad:O->ξ):O->χ Sum:=bX 0 (bm 29 (zO .normal) 1 (AH m 0) (nL m f t) (λa=>cond (bV bad m) (a .normal (ar 0 29 []) (nL m f t)) (a .ret (ar 0 29 [(2,.v (.bool η))]) (nL m f t))))
def awG(c:(O->Z)->ξ)(m:O)(f:Θ)(t:ae)(bad:O->ξ):let a:=[AB.row η m 9 (J f) t];let b:=[vB η];ad θ (zw c) (Oq m f t bad) 100 SS [.sl 0 9 0 0 m ζ] (nL m f t) (ag 1)
 =bif κ ((m:Z)> (12:Z))then rO b a else Ξ [cy ([AV.sl 0 9 0 0 m ζ,vI 0]=AH m 0/\Φ a (nL m f t))] (bif bV bad m then rO [vB ε] a else rO b a):=by intros;kernel_rfl
def oJ(a:(O->Z)->ξ)(f:Θ)(i:O):ξ:= !(aH (f i 0) (-1000) 1000&&a (v8 (f i 1) (f i 2) (f i 3) (f i 4) (f i 5) (f i 6) (f i 7) (f i 8)))
def auM{b:(O->Z)->ξ}(h:aK θ (zw b))(m:O)(f:Θ)(t:ae)(s:m<=2^40):ck θ 1 (.block 0 (.loop (a5 0 SS))) (bm 29 (zO .normal) 1 (AH m 0) (nL m f t) (λa=>cond (bV (oJ b f) m) (a .normal (ar 0 29 []) (nL m f t)) (a .ret (ar 0 29 [(2,.v (.bool η))]) (nL m f t)))):=by
 refine dQ h (n:=100) (m:=1) (lv:=zO) (λi=>AH m i) (λ_=>nL m f t) (λi=>bV (oJ b f) i=ε) m (λ_=>K) (du rfl rfl rfl) (aQ _) rfl λa Q g i k p=>⟨cN _ _ _,?_⟩
 rw[ass];refine aD (λc=>?_) λc=>?_
 ·have c:=aV c
  have d:i<m:=by omega
  have e:oJ b f i=ε->aE (.out .ret [.v (.bool η)] [.row η m 9 (J f) t]) (vW 29 0 zO (λi=>AH m i) (λ_=>nL m f t) (λq=>q=i+1/\i<m/\bV (oJ b f) (i+1)=ε) a Q):=λr=>by refine F ⟨_,Φ.refl _,?_⟩;rw[o5 d r]at g;exact g
  rw[cV,bH,bz (x:=(i:Z)+1)];have l:aJ [κ ((i:Z)<m),κ (i<m)]=ε:=by simp only[Ω,ax,aj,aL];omega
  refine aq l ?_;cases j:aH (f i 0) (-1000) 1000 with
  |false=>exact e (by simp only[oJ,j];rfl)
  |true=>
   refine aq l ?_;cases o:b (v8 (f i 1) (f i 2) (f i 3) (f i 4) (f i 5) (f i 6) (f i 7) (f i 8))with
   |false=>exact e (by simp only[oJ,j,o];rfl)
   |true=>exact F ⟨i+1,⟨rfl,d,ro k (by simp only[oJ,j,o];rfl)⟩,rfl,Φ.refl _⟩
 ·have c:=cu c
  have:i=m:=by omega
  subst this;refine F ⟨_,Φ.refl _,?_⟩;rw[aU rfl];rw[k]at g;exact g
def WE:aK θ (zw (λv=>bt (bq v))):=by unfold zw;rw[qP];exact az qT D5
def aO(L:E Wh):ξ:=κ (L.length<=12)&&L.all λw=>aH w.s (-1000) 1000&&bt w.r
def Zz(f:Θ)(m:O):aO (V f m)=(κ (m<=12)&&bV (oJ (λv=>bt (bq v)) f) m):=by
 simp only[aO,cR]
 congr 1
 simp only[V,bV,Fl]
 congr 1
 funext j
 simp only[JU,oJ,Bool.not_not];rfl
def bF:E Md:=[.rd 9 123]
def vN:E SA->χ FR
 |[.row m g]=>γ {val:=.v (.bool (aO (V (ο g) m))),aw:=[aF m g,κ (m<=2^39)]}
 |_=>ζ
def z9:ak θ 157 (ai bF vN):=by
 refine ca WE func157 rfl λk r d h=>?_
 unfold vN at d;split at d
 ·rename_i m g
  cases d;simp only[Ω]at h;obtain⟨i,l,_⟩:=h;have s:=aV l;refine⟨nL m (ο g) 123,Oq m (ο g) 123 (oJ (λv=>bt (bq v)) (ο g)),100,.cons (ab.row λj f=>a7 i j f) .nil,da (auM WE m (ο g) 123 (by omega)),?_⟩;show aE (ad θ (zw (λv=>bt (bq v))) (Oq m (ο g) 123 (oJ (λv=>bt (bq v)) (ο g))) 100 SS [.sl 0 9 0 0 m ζ] (nL m (ο g) 123) (ag 1)) _
  rw[awG];have a:∀b,aO (V (ο g) m)=b->aE (.out .ret [.v (.bool b)] [.row η m 9 (J (ο g)) 123]) (dX (bJ bF [.row m g] []) {val:=.v (.bool (aO (V (ο g) m))),aw:=[aF m g,κ (m<=2^39)]}):=λb p=>F ⟨_,rfl,by rw[p],.cons (ab.row λj f=>(a7 i j f).symm) .nil⟩
  have e:=Zz (ο g) m;refine aD (λc=>?_) λc=>?_
  ·have c:=aV c
   have:κ (m<=12)=η:=gF;exact a η (e.trans (by rw[this];rfl))
  ·have c:=cu c
   have:κ (m<=12)=ε:=dc;refine aq (by rw[Ω];exact⟨cG ⟨rfl,Φ.refl _⟩,rfl⟩) (aD (λq=>?_) λq=>?_)
   ·exact a ε (e.trans (by rw[this];exact q))
   ·exact a η (e.trans (by rw[this];exact q))
 ·cases d
abbrev Dr:Ex->E O:=cj [0,1,6,7] [1,6] [4,5]
abbrev jW(m:O)(f:Θ)(t:ae)(n:O)(h:Θ):E AB:=[.row η m 9 (J f) t,.row ε n 9 (J h) 123]
abbrev xD(m:O)(b:ξ)(n i:O):E AV:=[.sl 0 9 0 0 m ζ,.v (.bool b),.own 1 n,.v (ι i)]
def ast(m:O)(b:ξ)(f:Θ)(t:ae)(n:O)(h:Θ)(i:O):let d:=(↑i:Z);let c:=(0:Z);let g:=vI (aa .i64 (d+(1:Z)));let j:=κ (0+aT d<m);let k:=AB.row η m 9 (J f) t;let e:=AV.v (.bool b);let l:=κ (d<(m:Z));let o:=AV.sl 0 9 0 0 m ζ;let a:=(0+aT d);let p:=[k,AB.row ε n 9 (J h) 123];a0 θ g0 100 K (a5 0 S4) (ar 0 38 ((Dr .normal).zip (xD m b n i))) (jW m f t n h) (cw 38 Dr 1)
 =bif κ (d<(m:Z))then Ξ [l,j] (bif !(f a 1==c&&(f a 2==c&&(f a 3==c&&(f a 4==c&&(f a 5==c&&(f a 6==c&&(f a 7==c&&(f a 8==c&&ε)))))))&&ε)then Ξ [l,j,Δ n n,Δ (n+1) 549755813888] (am.out .normal [o,e,AV.own 1 (n+1),g] [k,AB.row ε (n+1) 9 (λq=>[ι (bif ω q n then h q 0 else f a 0),ι (bif ω q n then h q 1 else f a 1),ι (bif ω q n then h q 2 else f a 2),ι (bif ω q n then h q 3 else f a 3),ι (bif ω q n then h q 4 else f a 4),ι (bif ω q n then h q 5 else f a 5),ι (bif ω q n then h q 6 else f a 6),ι (bif ω q n then h q 7 else f a 7),ι (bif ω q n then h q 8 else f a 8)]) 123])else am.out .normal [o,e,AV.own 1 n,g] p)else am.out (Ex.exit 0) [e,AV.own 1 n] p:=by intros;kernel_rfl
def Nn:aG:=ext g0 157 (ai bF vN)
noncomputable abbrev Ot(m:O)(b:ξ)(f:Θ)(t:ae)(n:O)(h:Θ):O->χ Sum:=bX 0 (bm 38 (Dr .normal) 1 (xD m b 0 0) (jW m f t 0 (Y [])) (λa=>a .normal (ar 0 38 [(1,.v (.bool b)),(6,.own 1 n)]) (jW m f t n h)))
def awK(m:O)(b:ξ)(f:Θ)(t:ae)(n:O)(h:Θ):let c:=[AV.af [AV.own 1 0,vB η]];let d:=AB.row η m 9 (J f) t;let a:=[d,AB.row ε 0 9 (λ_=>[]) 123];ad θ Nn (Ot m b f t n h) 100 S4 [.sl 0 9 0 0 m ζ,.v (.bool b)] [.row η m 9 (J f) t] (ag 1)
 =Ξ [cy ([AV.sl 0 9 0 0 m ζ,AV.v (.bool b),AV.own 1 0,vI 0]=xD m b 0 0/\Φ a (jW m f t 0 (Y [])))] (bif !b then rO c a else Ξ [Δ n n,aF n (J h),κ (n<=549755813888)] (bif !aO (V (ο (J h)) n)then rO c a else rO [AV.af [AV.own 1 n,vB ε]] [d,AB.row ε n 9 (J h) 123])):=by intros;kernel_rfl
def tv(L:E Wh)(f:ao)(j:O)(a:j<L.length+1)(k:O)(c:k<9):(bif ω j L.length then Y L j k else f k)=Y (L++[bh f]) j k:=by
 rcases om j L.length with h|h
 ·have b:ω j L.length=ε:=by rw[bM];exact h
  rw[b,a6];simp only[Y,kN h]
 ·have:j=L.length:=by omega
  subst this;have b:ω L.length L.length=η:=by rw[<-E',bM];omega
  rw[b,be];simp only[Y,oi (aQ _),Fz,kO];rcases(by omega:k=0\/k=1\/k=2\/k=3\/k=4\/k=5\/k=6\/k=7\/k=8)with rfl|rfl|rfl|rfl|rfl|rfl|rfl|rfl|rfl<;>rfl
def aa6(L:E Wh)(f:ao)(j:O)(a:j<L.length+1):[ι (bif ω j L.length then Y L j 0 else f 0),ι (bif ω j L.length then Y L j 1 else f 1),ι (bif ω j L.length then Y L j 2 else f 2),ι (bif ω j L.length then Y L j 3 else f 3),ι (bif ω j L.length then Y L j 4 else f 4),ι (bif ω j L.length then Y L j 5 else f 5),ι (bif ω j L.length then Y L j 6 else f 6),ι (bif ω j L.length then Y L j 7 else f 7),ι (bif ω j L.length then Y L j 8 else f 8)]=J (Y (L++[bh f])) j:=by simp only[J,tv L f j a 0 (by omega),tv L f j a 1 (by omega),tv L f j a 2 (by omega),tv L f j a 3 (by omega),tv L f j a 4 (by omega),tv L f j a 5 (by omega),tv L f j a 6 (by omega),tv L f j a 7 (by omega),tv L f j a 8 (by omega)]
def gV(f:ao):ξ:=(f 1==0&&(f 2==0&&(f 3==0&&(f 4==0&&(f 5==0&&(f 6==0&&(f 7==0&&(f 8==0&&ε))))))))&&ε
def Ym(f:ao):gV f=κ ((bh f).r=iN):=by rw[kg];simp[gV,bh,iN]
variable {z:O->O->Z}
def DW(h:gV (z i)=ε):bQ (V z (i+1))=bQ (V z i):=by rw[Ym,aL]at h;rw[iQ,bQ,List.filter_append,Sb (by simp[h])];simp[bQ]
def DV(h:gV (z i)=η):bQ (V z (i+1))=bQ (V z i)++[bh (z i)]:=by rw[Ym,qy]at h;rw[iQ,bQ,List.filter_append,Sc (by simp[h])];simp[bQ]
def wY(f:Θ)(i:O):(bQ (V f i)).length<=i:=by
 have:=azi (λw:Wh=>κ (w.r≠iN)) (V f i)
 rwa [cR]at this
def auN(m:O)(b:ξ)(f:Θ)(t:ae)(k:m<=2^38):ck θ 1 (.block 0 (.loop (a5 0 S4))) (bm 38 (Dr .normal) 1 (xD m b 0 0) (jW m f t 0 (Y [])) (λa=>a .normal (ar 0 38 [(1,.v (.bool b)),(6,.own 1 (bQ (V f m)).length)]) (jW m f t (bQ (V f m)).length (Y (bQ (V f m)))))):=by
 refine dQ ba (n:=100) (m:=1) (lv:=Dr) (λi=>xD m b (bQ (V f i)).length i) (λi=>jW m f t (bQ (V f i)).length (Y (bQ (V f i)))) (λ_=>True) m (λ_=>K) (du rfl rfl rfl) (aQ _) trivial λa Q e i o g=>⟨cN _ _ _,?_⟩
 have p:=wY f i;rw[ast];refine aD (λc=>?_) λc=>?_
 ·have c:=aV c
  have d:i<m:=by omega
  rw[cV,bH,bz (x:=(i:Z)+1)];refine c_ ?_;show aE (cond (!(gV (f i))) _ _) _
  cases q:gV (f i)with
  |true=>
   refine F ⟨i+1,⟨rfl,d,trivial⟩,?_,?_⟩
   ·show _=xD m b (bQ (V f (i+1))).length (i+1)
    rw[DW q];rfl
   ·show Φ _ (jW m f t (bQ (V f (i+1))).length (Y (bQ (V f (i+1)))))
    rw[DW q];exact Φ.refl _
  |false=>
   refine c_ (F ⟨i+1,⟨rfl,d,trivial⟩,?_,?_⟩)
   ·show _=xD m b (bQ (V f (i+1))).length (i+1)
    rw[DV q,bN];rfl
   ·show Φ _ (jW m f t (bQ (V f (i+1))).length (Y (bQ (V f (i+1)))))
    rw[DV q,bN];exact .cons (ab.refl _) (.cons (ab.row λj h=>aa6 _ _ j h) .nil)
 ·have c:=cu c
  have:i=m:=by omega
  subst this;refine F ⟨_,Φ.refl _,?_⟩;rw[aU rfl];exact e
def akY:aK θ Nn:=az ba z9
def aoC(L:E Wh):aO L=gp L:=rfl
def oO(b:ξ)(L:E Wh):E Wh:=bif b&&gp (bQ L)then bQ L else[]
def KL:E SA->χ FR
 |[.row m g,.v (.bool b)]=>γ {val:=.af [.own 0 (oO b (V (ο g) m)).length,.v (.bool (b&&gp (bQ (V (ο g) m))))],new:=[.row ε (oO b (V (ο g) m)).length 9 (J (Y (oO b (V (ο g) m)))) 123],aw:=[aF m g,κ (m<=2^38)]}
 |_=>ζ
def aps:ak θ 237 (ai dl KL):=by
 refine ca akY func237 rfl λi s e f=>?_
 unfold KL at e;split at e
 ·rename_i m g b
  cases e;simp only[Ω]at f;obtain⟨h,k,_⟩:=f;have l:=aV k;have t:=wY (ο g) m;refine⟨[.row η m 9 (J (ο g)) 123],Ot m b (ο g) 123 (bQ (V (ο g) m)).length (Y (bQ (V (ο g) m))),100,.cons (ab.row λj a=>a7 h j a) .nil,da (auN m b (ο g) 123 l),?_⟩;show aE (ad θ Nn (Ot m b (ο g) 123 (bQ (V (ο g) m)).length (Y (bQ (V (ο g) m)))) 100 S4 [.sl 0 9 0 0 m ζ,.v (.bool b)] [.row η m 9 (J (ο g)) 123] (ag 1)) _
  rw[awK,cZ,uH,aoC];generalize V (ο g) m=L at*;have d:∀(D:E Wh)(c:ξ)(G:O->E τ),(b&&gp (bQ L))=c->oO b L=D->(∀j,j<D.length->G j=J (Y D) j)->aE (.out .ret [.af [.own 1 D.length,.v (.bool c)]] [.row η m 9 (J (ο g)) 123,.row ε D.length 9 G 123])
    (dX (bJ dl [.row m g,.v (.bool b)] []) {val:=.af [.own 0 (oO b L).length,.v (.bool (b&&gp (bQ L)))],new:=[.row ε (oO b L).length 9 (J (Y (oO b L))) 123],aw:=[aF m g,κ (m<=2^38)]}):=by
   rintro D c G rfl rfl r;exact F ⟨_,rfl,rfl,.cons (ab.row λj a=>(a7 h j a).symm) (.cons (ab.row r) .nil)⟩
  refine aq (by rw[Ω];exact⟨cG ⟨rfl,.cons (ab.refl _) (.cons (ab.row λj a=>by omega) .nil)⟩,rfl⟩) ?_;cases b with
  |false=>exact d [] η _ rfl rfl λj a=>aR a (dh _)
  |true=>
   refine aq (by simp only[Ω,ax,aj,aL,bl,dn,bv,aQ];omega) ?_;refine aD (λq=>?_) λq=>?_
   ·have q:gp (bQ L)=η:=by simpa using q
    exact d [] η _ (by rw[q];rfl) (by rw[oO,q];rfl) λj a=>aR a (dh _)
   ·have q:gp (bQ L)=ε:=by simpa using q
    exact d (bQ L) ε _ (by rw[q];rfl) (by rw[oO,q];rfl) λj a=>rfl
 ·cases e
def HZ:aG:=ext g0 236 (ai dl KP)
def NH:aG:=ext HZ 237 (ai dl KL)
abbrev DJ:Ex->E O:=cj [0,4,5] [4] [2,3]
abbrev AM(m n i:O):E AV:=[.sl 0 9 0 0 m ζ,.own 1 n,.v (ι i)]
def as2(m:O)(f:Θ)(t:ae)(n:O)(h:Θ)(i:O):let c:=(V (ο (J h)) n);let d:=AB.row η m 9 (J f) t;let b:=(↑i:Z);let a:=(0+aT b);let e:=(Wh.mk (f a 0) (Cy.mk (f a 1) (f a 2) (f a 3) (f a 4) (f a 5) (f a 6) (f a 7) (f a 8)));let g:=(ce (cL c e));a0 θ HZ 100 K (a5 0 SU) (ar 0 32 ((DJ .normal).zip (AM m n i))) (jW m f t n h) (cw 32 DJ 1)
 =bif κ (b<(m:Z))then Ξ [κ (b<(m:Z)),κ (0+aT b<m),Δ n n,aF n (J h),κ (n<=274877906944)] (bif !lU c e then rO [AV.own 1 0,vB η] [d,AB.row ε 0 9 (λ_=>[]) 123]else am.out .normal [AV.sl 0 9 0 0 m ζ,AV.own 1 g,vI (aa .i64 (b+(1:Z)))] [d,AB.row ε g 9 (J (Y (cL c e))) 123])else am.out (Ex.exit 0) [AV.own 1 n] [d,AB.row ε n 9 (J h) 123]:=by intros;kernel_rfl
noncomputable abbrev OL(m:O)(f:Θ)(t:ae)(c:ξ)(n:O)(h:Θ):O->χ Sum:=bX 0 (bm 32 (DJ .normal) 1 (AM m 0 0) (jW m f t 0 (Y [])) (λa=>cond c (a .normal (ar 0 32 [(4,.own 1 n)]) (jW m f t n h)) (a .ret (ar 0 32 [(2,.own 1 0),(3,.v (.bool η))]) (jW m f t 0 (Y [])))))
def axL(m:O)(f:Θ)(t:ae)(c:ξ)(n:O)(h:Θ):let a:=AB.row η m 9 (J f) t;let d:=(V (ο (J h)) n);let b:=(oO ε d);ad θ NH (OL m f t c n h) 100 SU [.sl 0 9 0 0 m ζ] [.row η m 9 (J f) t] (ag 1)
 =Ξ [cy ([AV.sl 0 9 0 0 m ζ,AV.own 1 0,vI 0]=AM m 0 0/\Φ [a,AB.row ε 0 9 (λ_=>[]) 123] (jW m f t 0 (Y [])))] (bif c then Ξ [Δ n n,aF n (J h),κ (n<=274877906944)] (rO [AV.af [AV.own 1 (ce b),AV.v (.bool (gp (bQ d)))]] [a,AB.row ε (ce b) 9 (J (Y b)) 123])else rO [AV.af [AV.own 1 0,vB η]] [a,AB.row ε 0 9 (J (Y [])) 123]):=by intros;kernel_rfl
def Qt(a:E Wh->Wh->E Wh):∀(xs acc:E Wh)(w:Wh),runT a acc (xs++[w])=match runT a acc xs with
  |some A=>if bt (ed A w)=ε then γ (a A w)else ζ
  |none=>ζ
 |[],acc,w=>by simp only[jO,runT]
 |x::xs,acc,w=>by
  simp only[lq,runT];split
  ·exact Qt a xs _ w
  ·rfl
def Qs(a:E Wh->Wh->E Wh):∀(xs b acc:E Wh),runT a acc xs=ζ->runT a acc (xs++b)=ζ
 |[],b,acc,h=>by simp[runT]at h
 |x::xs,b,acc,h=>by
  simp only[lq,runT]at h⊢;split
  ·rename_i c
   rw[aU c]at h;exact Qs a xs b _ h
  ·rfl
def abj:∀{xs acc A:E Wh},rising acc->runT cL acc xs=γ A->rising A
 |[],acc,A,a,h=>by simp only[runT,aC]at h;subst h;exact a
 |x::xs,acc,A,a,h=>by
  simp only[runT]at h;split at h
  ·exact abj (N2 x a) h
  ·cases h
def alV(acc:E Wh)(x:Wh):(cL acc x).length<=acc.length+1:=by
 induction acc with
 |nil=>simp[cL]
 |cons y l a=>
  unfold cL;split
  ·simp only[bZ]
   omega
  ·split<;>simp
def Qr:∀{xs acc A:E Wh},runT cL acc xs=γ A->A.length<=acc.length+xs.length
 |[],acc,A,h=>by simp only[runT,aC]at h;subst h;simp
 |x::xs,acc,A,h=>by
  simp only[runT]at h;split at h
  ·have:=Qr h
   have a:=alV acc x;simp only[bZ];omega
  ·cases h
def OX(f:Θ){i m:O}(h:i<=m):∃a,V f m=V f i++a:=by
 induction m with
 |zero=>exact⟨[],by rw[show i=0 by omega];simp⟩
 |succ m c=>
  rcases om m i with b|b
  ·exact⟨[],by rw[show i=m+1 by omega];simp⟩
  ·obtain⟨a,e⟩:=c b
   exact⟨a++[bh (f m)],by rw[iQ,e,jN]⟩
def mc(f:Θ)(i:O):E Wh:=(runT cL [] (V f i)).getD []
def Gf(h:runT cL [] (V z i)=γ L):mc z i=L:=by rw[mc,h];rfl
def avf(m:O)(f:Θ)(t:ae)(v:m<=2^38)(k:aK θ HZ):ck θ 1 (.block 0 (.loop (a5 0 SU))) (bm 32 (DJ .normal) 1 (AM m 0 0) (jW m f t 0 (Y [])) (λa=>cond (runT cL [] (V f m)).isSome (a .normal (ar 0 32 [(4,.own 1 (mc f m).length)]) (jW m f t (mc f m).length (Y (mc f m)))) (a .ret (ar 0 32 [(2,.own 1 0),(3,.v (.bool η))]) (jW m f t 0 (Y []))))):=by
 refine dQ k (n:=100) (m:=1) (lv:=DJ) (λi=>AM m (mc f i).length i) (λi=>jW m f t (mc f i).length (Y (mc f i))) (λi=>(runT cL [] (V f i)).isSome=ε) m (λ_=>K) (du rfl rfl rfl) (aQ _) rfl λa Q h i p r=>⟨cN _ _ _,?_⟩
 obtain⟨A,d⟩:=tG.1 p;have o:=Gf d;have y:A.length<=i:=by have:=Qr d;rw[cR]at this;simpa using this
 have b:rising A:=abj yb d;have c:runT cL [] (V f (i+1))=if bt (ed A (bh (f i)))=ε then γ (cL A (bh (f i)))else ζ:=by rw[iQ,Qt,d]
 rw[as2,cZ,uH,o];refine aD (λg=>?_) λg=>?_
 ·have g:=aV g
  have l:i<m:=by omega
  rw[cV,bH,bz (x:=(i:Z)+1)];rw[show Wh.mk (f i 0) (Cy.mk (f i 1) (f i 2) (f i 3) (f i 4) (f i 5) (f i 6) (f i 7) (f i 8))=bh (f i)from rfl,aoF b];refine aq (by simp only[Ω,ax,aj,aL,bl,dn,aQ,bv];omega) (aD (λq=>?_) λq=>?_)
  ·have q:¬bt (ed A (bh (f i)))=ε:=by simpa using q
   rw[bI q]at c;obtain⟨z,e⟩:=OX f (show i+1<=m by omega);have s:runT cL [] (V f m)=ζ:=by rw[e];exact Qs _ _ _ _ c
   rw[s]at h;exact F ⟨_,.cons (ab.refl _) (.cons (ab.row λj u=>aR u (dh _)) .nil),h⟩
  ·have q:bt (ed A (bh (f i)))=ε:=by simpa using q
   rw[aU q]at c;refine F ⟨i+1,⟨rfl,l,by rw[c];rfl⟩,?_,?_⟩
   ·show _=AM m (mc f (i+1)).length (i+1)
    rw[Gf c];rfl
   ·show Φ _ (jW m f t (mc f (i+1)).length (Y (mc f (i+1))))
    rw[Gf c];exact Φ.refl _
 ·have g:=cu g
  have:i=m:=by omega
  subst this;refine F ⟨_,Φ.refl _,?_⟩;rw[aU rfl];rw[d,o]at h;exact h
def Xa:aK θ HZ:=az ba apV
def alm:aK θ NH:=az Xa aps
def bo(L:E Wh):E Wh:=(iF L).getD []
def KS:E SA->χ FR
 |[.row m g]=>γ {val:=.af [.own 0 (bo (V (ο g) m)).length,.v (.bool (iF (V (ο g) m)).isSome)],new:=[.row ε (bo (V (ο g) m)).length 9 (J (Y (bo (V (ο g) m)))) 123],aw:=[aF m g,κ (m<=2^38)]}
 |_=>ζ
def IS:ak θ 158 (ai bF KS):=by
 refine ca alm func158 rfl λk w e f=>?_
 unfold KS at e;split at e
 ·rename_i m g
  cases e;simp only[Ω]at f;obtain⟨i,l,_⟩:=f;have n:=aV l;refine⟨[.row η m 9 (J (ο g)) 123],OL m (ο g) 123 (runT cL [] (V (ο g) m)).isSome (mc (ο g) m).length (Y (mc (ο g) m)),100,.cons (ab.row λj a=>a7 i j a) .nil,da (avf m (ο g) 123 n Xa),?_⟩;show aE (ad θ NH (OL m (ο g) 123 (runT cL [] (V (ο g) m)).isSome (mc (ο g) m).length (Y (mc (ο g) m))) 100 SU [.sl 0 9 0 0 m ζ] [.row η m 9 (J (ο g)) 123] (ag 1)) _
  rw[axL,cZ,uH];have d:∀(D:E Wh)(c:ξ)(G:O->E τ),(iF (V (ο g) m)).isSome=c->bo (V (ο g) m)=D->(∀j,j<D.length->G j=J (Y D) j)->aE (.out .ret [.af [.own 1 D.length,.v (.bool c)]] [.row η m 9 (J (ο g)) 123,.row ε D.length 9 G 123])
    (dX (bJ bF [.row m g] []) {val:=.af [.own 0 (bo (V (ο g) m)).length,.v (.bool (iF (V (ο g) m)).isSome)],new:=[.row ε (bo (V (ο g) m)).length 9 (J (Y (bo (V (ο g) m)))) 123],aw:=[aF m g,κ (m<=2^38)]}):=by
   rintro D c G rfl rfl s;exact F ⟨_,rfl,rfl,.cons (ab.row λj a=>(a7 i j a).symm) (.cons (ab.row s) .nil)⟩
  refine aq (by rw[Ω];exact⟨cG ⟨rfl,.cons (ab.refl _) (.cons (ab.row λj a=>by omega) .nil)⟩,rfl⟩) ?_;refine aD (λq=>?_) λq=>?_
  ·obtain⟨A,b⟩:=tG.1 q
   have t:=Gf b;have x:A.length<=m:=by have:=Qr b;rw[cR]at this;simpa using this
   have u:(iF (V (ο g) m)).isSome=gp (bQ A):=by unfold iF;rw[b];cases h:gp (bQ A)<;>simp[h]
   have v:bo (V (ο g) m)=oO ε A:=by unfold bo iF oO;rw[b];cases h:gp (bQ A)<;>simp[h]
   rw[t];exact aq (by simp only[Ω,ax,aj,aL,bl,dn,bv,aQ];omega) (d _ _ _ u v λj a=>rfl)
  ·have b:runT cL [] (V (ο g) m)=ζ:=by
    cases h:runT cL [] (V (ο g) m)with
    |none=>rfl
    |some A=>rw[h]at q;cases q
   exact d [] η _ (by unfold iF;rw[b];rfl) (by unfold bo iF;rw[b];rfl) λj a=>aR a (dh _)
 ·cases e
def an4(a b:ao):∀k,k<8->ez a (fT b) k=fT (ez a b) k:=by
 obtain⟨c,n⟩:=AY (0-b 7);obtain⟨d,o⟩:=AY (b 3+b 7);have e:fT b 0=0-b 7+18446744073709551616*c:=n;have f:fT b 4=b 3+b 7+18446744073709551616*d:=o;have g:fT b 1=b 0:=rfl;have h:fT b 2=b 1:=rfl;have i:fT b 3=b 2:=rfl;have j:fT b 5=b 4:=rfl;have l:fT b 6=b 5:=rfl;have m:fT b 7=b 6:=rfl;refine lM ?_ ?_ ?_ ?_ ?_ ?_ ?_ ?_
 ·show W _=W (0-W (bw a b 7))
  rw[JE,show bw a (fT b) 0=0-bw a b 7+18446744073709551616*(c*a 0-d*a 4) by simp only[bw,dy,e,g,h,i,f,j,l,m];grind,pk]
 ·show W _=W (bw a b 0)
  rw[show bw a (fT b) 1=bw a b 0+18446744073709551616*(c*a 1-d*a 5) by simp only[bw,dy,e,g,h,i,f,j,l,m];grind,pk]
 ·show W _=W (bw a b 1)
  rw[show bw a (fT b) 2=bw a b 1+18446744073709551616*(c*a 2-d*a 6) by simp only[bw,dy,e,g,h,i,f,j,l,m];grind,pk]
 ·show W _=W (bw a b 2)
  rw[show bw a (fT b) 3=bw a b 2+18446744073709551616*(c*a 3-d*a 7) by simp only[bw,dy,e,g,h,i,f,j,l,m];grind,pk]
 ·show W _=W (W (bw a b 3)+W (bw a b 7))
  rw[rI,rJ,show bw a (fT b) 4=bw a b 3+bw a b 7+18446744073709551616*(c*a 4+d*(a 0+a 4)) by simp only[bw,dy,e,g,h,i,f,j,l,m];grind,pk]
 ·show W _=W (bw a b 4)
  rw[show bw a (fT b) 5=bw a b 4+18446744073709551616*(c*a 5+d*(a 1+a 5)) by simp only[bw,dy,e,g,h,i,f,j,l,m];grind,pk]
 ·show W _=W (bw a b 5)
  rw[show bw a (fT b) 6=bw a b 5+18446744073709551616*(c*a 6+d*(a 2+a 6)) by simp only[bw,dy,e,g,h,i,f,j,l,m];grind,pk]
 ·show W _=W (bw a b 6)
  rw[show bw a (fT b) 7=bw a b 6+18446744073709551616*(c*a 7+d*(a 3+a 7)) by simp only[bw,dy,e,g,h,i,f,j,l,m];grind,pk]
def auo{f g:O->Z}(h:∀k,k<8->f k=g k):∀k,k<8->fT f k=fT g k:=by
 refine lM ?_ ?_ ?_ ?_ ?_ ?_ ?_ ?_
 ·show W _=W _;rw[h 7 (by omega)]
 ·exact h 0 (by omega)
 ·exact h 1 (by omega)
 ·exact h 2 (by omega)
 ·show W _=W _;rw[h 3 (by omega),h 7 (by omega)]
 ·exact h 4 (by omega)
 ·exact h 5 (by omega)
 ·exact h 6 (by omega)
variable {h:O->Z}
def an3(c:∀k,k<8-> -9223372036854775808<=h k/\h k<=9223372036854775807):∀k,k<8->ez h D9 k=h k:=by
 have e:∀k,k<8->bw h D9 k=h k:=by refine lM ?_ ?_ ?_ ?_ ?_ ?_ ?_ ?_<;>simp[bw,dy,D9]
 intro k b;have:=c k b;show W (bw h D9 k)=h k
 rw[e k b,fj this.1 this.2]
def Zd{a:O->Z}(b:∀k,k<8-> -9223372036854775808<=a k/\a k<=9223372036854775807):∀(t k:O),k<8->ez a (b8 t) k=fX a t k
 |0=>an3 b
 |t+1=>λk c=>by
  show ez a (fT (b8 t)) k=fT (fX a t) k
  rw[an4 a (b8 t) k c];exact auo (Zd b t) k c
def fF(bad:O->ξ)(m:O):Z:=match(dK m).find? bad with
 |some j=>(j:Z)
 |none=> -1
def zt{bad:O->ξ}{m i:O}(h:bV bad i=ε)(a:i<m)(b:bad i=ε):fF bad m=i:=by
 have:(dK m).find? bad=γ i:=by rw[adU];exact⟨b,by simpa using a,λj c=>by simp[wZ h c]⟩
 rw[fF,this]
def CK{bad:O->ξ}(h:bV bad i=ε):fF bad i= -1:=by
 have:(dK i).find? bad=ζ:=by rw[yc];intro j a;simp[wZ h (by simpa using a)]
 rw[fF,this]
def Ht(bad:O->ξ)(m:O):(bV bad m=ε/\fF bad m= -1)\/(∃i:O,i<m/\bV bad i=ε/\bad i=ε/\bV bad m=η/\fF bad m=i):=by
 cases h:(dK m).find? bad with
 |none=>
  have:bV bad m=ε:=bT.2 λj d=>by have:=yc.1 h j d;simpa using this
  exact .inl ⟨this,CK this⟩
 |some j=>
  obtain⟨b,a,e⟩:=adU.1 h;have a:j<m:=by simpa using a
  have c:bV bad j=ε:=bT.2 λk f=>by have:=e k (by simpa using f);simpa using this
  exact .inr ⟨j,a,c,b,o5 a b,zt c a b⟩
def aky(bad:O->ξ)(m:O):κ (fF bad m>=0)= !bV bad m:=by
 rcases Ht bad m with⟨a,b⟩|⟨i,_,_,_,a,b⟩
 ·rw[a,b];rfl
 ·rw[a,b];simp
def DX{f g:O->ξ}(h:∀j,j<i->f j=g j):bV f i=bV g i:=by rw[kg,rn,rn];exact⟨λb j a=>by rw[<-h j a];exact b j a,λb j a=>by rw[h j a];exact b j a⟩
def Nf{f g:O->ξ}(h:∀j,j<i->f j=g j):fF f i=fF g i:=by
 rcases Ht f i with⟨b,c⟩|⟨a,d,b,c,_,e⟩
 ·rw[c,CK (by rw[<-DX h];exact b)]
 ·rw[e,zt (by rw[<-DX λj k=>h j (by omega)];exact b) d (by rw[<-h a d];exact c)]
def tu(a:i<L.length):Y L i=eM L[i]:=by
 funext k
 simp only[Y,df a]
def ayy(a:L.length<=i):Y L i=λ_=>0:=by
 funext k
 simp only[Y,nk a]
def Rx(A:E Wh)(i:O)(x:Wh)(j:O)(a:i<A.length):Y (A.set i x) j=if j=i then eM x else Y A j:=by
 funext k
 by_cases e:j=i
 ·subst e
  simp[Y,a]
 ·have b:i≠j:=λh=>e h.symm
  simp[Y,e,List.getElem?_set_ne b]
def ayz(L:E Wh)(j q:O)(h:j+1<L.length):Y (lg L j) q=if q=j then Y L (j+1)else if q=j+1 then Y L j else Y L q:=by
 funext k
 simp only[Y,Q3 L j q h];by_cases a:q=j
 ·simp only[aU a];rfl
 ·simp only[bI a]
  by_cases b:q=j+1
  ·simp only[aU b];rfl
  ·simp only[bI b];rfl
def Ry(f:ao):∀k,k<9->eM (bh f) k=f k:=by intro k a;rcases(by omega:k=0\/k=1\/k=2\/k=3\/k=4\/k=5\/k=6\/k=7\/k=8)with rfl|rfl|rfl|rfl|rfl|rfl|rfl|rfl|rfl<;>rfl
def X_:∀{A:E Wh}{w:Wh}{i:O}(b:i<A.length),A[i].s=w.s->(∀j (d:j<i),(A[j]'(by omega)).s≠w.s)->eO A w=A.set i ⟨w.s,gn A[i].r w.r⟩
 |[],_,_,b,_,_=>by simp at b
 |x::l,w,0,_,h,_=>by simp only[yd]at h⊢;rw[eO,aU h,h];rfl
 |x::l,w,i+1,b,h,a=>by have c:=a 0 (by omega);simp only[yd,Si]at h c⊢;rw[eO,bI c,X_ (i:=i) (by simpa using b) h λj d=>by simpa using a (j+1) (by omega)];rfl
def abT:∀{A:E Wh}{w:Wh}{i:O}(b:i<A.length),A[i].s=w.s->(∀j (d:j<i),(A[j]'(by omega)).s≠w.s)->ed A w=gn A[i].r w.r
 |[],_,_,b,_,_=>by simp at b
 |x::l,w,0,_,h,_=>by simp only[yd]at h⊢;simp[ed,j8,h]
 |x::l,w,i+1,b,h,a=>by
  have c:=a 0 (by omega);simp only[yd,Si]at h c⊢;have:=abT (A:=l) (i:=i) (by simpa using b) h λj d=>by simpa using a (j+1) (by omega)
  rw[<-this];simp[ed,j8,c]
def au9{w:Wh}(h:∀x∈L,x.s≠w.s):ed L w=w.r:=by
 have:(L.find? λx=>κ (x.s=w.s))=ζ:=yc.2 λx a=>by simpa using h x a
 simp[ed,j8,this]
def gQ(f:Θ)(m j:O):E Wh:=bQ (V f j)++(V f m).drop (bQ (V f j)).length
def ahU(f:Θ){m j:O}(h:j<=m):(gQ f m j).length=m:=by have:=wY f j;simp only[gQ,bN,py,cR];omega
def Vw(f:Θ){m j q:O}(h:j<=q)(a:q<m):∀k,k<9->Y (gQ f m j) q k=f q k:=by
 intro k b;have:=wY f j;have e:(gQ f m j)[q]?=γ (bh (f q)):=by rw[gQ,oi (by omega),qq,show(bQ (V f j)).length+(q-(bQ (V f j)).length)=q by omega,o4 f a]
 simp only[Y,e];exact Ry (f q) k b
def ahX{m j:O}(h:gV (z j)=ε):gQ z m (j+1)=gQ z m j:=by rw[gQ,gQ,DW h]
def ahV{m j:O}(b:j<m)(h:gV (z j)=η):gQ z m (j+1)=(gQ z m j).set (bQ (V z j)).length (bh (z j)):=by
 have c:=wY z j;rw[gQ,gQ,DV h,List.set_append_right _ _ (aQ _),Fz,bN,bZ,eY,jN]
 congr 1
 have a:(bQ (V z j)).length<(V z m).length:=by rw[cR];omega
 rw[Fo a];rfl
def Pm{f:O->O->Z}:∀{i:O},bV (λj=>gV (f j)) i=ε->bQ (V f i)=V f i
 |0,_=>rfl
 |i+1,h=>by
  have b:gV (f i)=η:=wZ (bad:=λj=>gV (f j)) h (fA i);have c:bV (λj=>gV (f j)) i=ε:=rn.2 λj d=>wZ (bad:=λj=>gV (f j)) h (by omega)
  rw[DV b,Pm c,iQ]
def ahW{m i:O}(d:i<m)(h:bV (λj=>gV (z j)) i=ε)(b:gV (z i)=ε):gQ z m (i+1)=V z m/\(bQ (V z (i+1))).length=i:=by
 have e:bQ (V z (i+1))=V z i:=by rw[DW b,Pm h]
 refine⟨?_,by rw[e,cR]⟩;obtain⟨a,c⟩:=OX z (show i<=m by omega);rw[gQ,e,c,cR];have:(V z i++a).drop i=a:=by rw[List.drop_append_of_le_length (by rw[cR];omega),azf (by rw[cR];omega),jO]
 rw[this]
mutual
def mapA(f:O->χ O):AV->χ AV
 | .v x=>γ (.v x)
 | .ptr i w j k=>(f i).map λi=>.ptr i w j k
 | .sl i w j k l c=>(f i).map λi=>.sl i w j k l c
 | .own i l=>(f i).map λi=>.own i l
 | .agg b=>(uK f b).map .agg
 | .af b=>(uK f b).map .af
 | .fn g b=>(uK f b).map (.fn g)
 | .err q=>γ (.err q)
 | .dead=>γ .dead
def uK(f:O->χ O):E AV->χ (E AV)
 |[]=>γ []
 |a::al=>match mapA f a,uK f al with
  |some x,γ d=>γ (x::d)
  |_,_=>ζ
end
mutual
theorem VR.map{f:O->χ O}{ν k:Nu}(h:∀i s b,f i=γ s->ν i=γ b->k s=γ b):∀{a m:AV}{y:τ},mapA f a=γ m->VR ν a y->VR k m y
 | .v _,m,_,d,e=>by simp only[mapA,aC]at d;subst d;simpa only[VR]using e
 | .ptr ..,m,_,d,e=>by simp only[mapA,dL]at d;obtain⟨q,n,rfl⟩:=d;simp only[VR]at e⊢;obtain⟨b,g,j⟩:=e;exact⟨b,h _ _ _ n g,j⟩
 | .sl ..,m,_,d,e=>by simp only[mapA,dL]at d;obtain⟨q,n,rfl⟩:=d;simp only[VR]at e⊢;obtain⟨p,c,g,j,u,v⟩:=e;exact⟨p,c,g,j,u,λw=>let⟨b,z,A⟩:=v w;⟨b,h _ _ _ n z,A⟩⟩
 | .own ..,m,_,d,e=>by simp only[mapA,dL]at d;obtain⟨q,n,rfl⟩:=d;simp only[VR]at e⊢;obtain⟨b,g,j⟩:=e;exact⟨b,h _ _ _ n g,j⟩
 | .agg t,m,_,d,e=>by simp only[mapA,dL]at d;obtain⟨q,n,rfl⟩:=d;simp only[VR]at e⊢;obtain⟨l,g,j⟩:=e;exact⟨l,g,aB.map h n j⟩
 | .af t,m,_,d,e=>by simp only[mapA,dL]at d;obtain⟨q,n,rfl⟩:=d;simp only[VR]at e⊢;obtain⟨l,g,j⟩:=e;exact⟨l,g,aB.map h n j⟩
 | .fn _ t,m,_,d,e=>by simp only[mapA,dL]at d;obtain⟨q,n,rfl⟩:=d;simp only[VR]at e⊢;obtain⟨l,g,j⟩:=e;exact⟨l,g,aB.map h n j⟩
 | .err _,m,_,d,e=>by simp only[mapA,aC]at d;subst d;simpa only[VR]using e
 | .dead,m,_,d,_=>by simp only[mapA,aC]at d;subst d;simp only[VR]
theorem aB.map{f:O->χ O}{ν k:Nu}(h:∀i s b,f i=γ s->ν i=γ b->k s=γ b):∀{al o:E AV}{r:E τ},uK f al=γ o->aB ν al r->aB k o r
 |[],o,r,d,e=>by
  simp only[uK,aC]at d;subst d;cases r with
  |nil=>simp only[aB]
  |cons=>simp only[aB]at e
 |a::al,o,r,d,e=>by
  cases r with
  |nil=>simp only[aB]at e
  |cons y r=>
   simp only[aB]at e;simp only[uK]at d;split at d
   ·rename_i x B g j
    cases d;simp only[aB];exact⟨VR.map h g e.1,aB.map h j e.2⟩
   ·cases d
end
def qa(f:O->χ O):AB->χ AB
 | .cells a t=>(uK f a).map λa=>.cells a t
 |b=>γ b
def zS(f:O->χ O):E AB->χ (E AB)
 |[]=>γ []
 |b::a=>match qa f b,zS f a with
  |some x,γ c=>γ (x::c)
  |_,_=>ζ
def O7{f:O->χ O}:∀{bs a:E AB},zS f bs=γ a->a.length=bs.length/\∀(j:O) b,bs[j]?=γ b->∃d,a[j]?=γ d/\qa f b=γ d
 |[],a,h=>by simp only[zS,aC]at h;subst h;exact⟨rfl,λj b c=>by simp at c⟩
 |b::bs,a,h=>by
  simp only[zS]at h;split at h
  ·rename_i x l e g
   cases h;obtain⟨i,k⟩:=O7 g;refine⟨by simp[i],λj d c=>?_⟩;cases j with
   |zero=>simp at c;subst c;exact⟨x,rfl,e⟩
   |succ j=>simpa using k j d (by simpa using c)
  ·cases h
def BR.map{f:O->χ O}{ν a:Nu}{i d:O}{b o:AB}{w:ψ}(h:∀i d b,f i=γ d->ν i=γ b->a d=γ b)(k:a d=ν i)(c:qa f b=γ o)(p:BR ν i b w):BR a d o w:=by
 cases b with
 |cells y t=>simp only[qa,dL]at c;obtain⟨q,r,rfl⟩:=c;obtain⟨b,l,e,j,m,s⟩:=p;exact⟨b,l,by rw[k];exact e,j,m,s.map h r⟩
 |row u n z g t=>
  simp only[qa,aC]at c;subst c;rcases p with⟨e,j,m⟩|⟨b,l,v,x,e,j⟩
  ·exact .inl ⟨e,j,by rw[k];exact m⟩
  ·exact .inr ⟨b,l,v,x,by rw[k];exact e,j⟩
 |gone=>simp only[qa,aC]at c;subst c;trivial
def anN{f:O->χ O}{b a:AB}(h:qa f b=γ a):a.wr=b.wr/\a.live=b.live/\(b=.gone->a=.gone):=by
 cases b with
 |cells c t=>simp only[qa,dL]at h;obtain⟨q,_,rfl⟩:=h;exact⟨rfl,rfl,λh=>by cases h⟩
 |row=>simp only[qa,aC]at h;subst h;exact⟨rfl,rfl,λh=>by cases h⟩
 |gone=>simp only[qa,aC]at h;subst h;exact⟨rfl,rfl,λ_=>rfl⟩
def pb(r:ξ):AB->AB
 | .row rw n w g t=>.row (rw&& !r) n w g t
 |b=>b
def e8:E ξ->E AB->E AB
 |_,[]=>[]
 |[],b::a=>b::e8 [] a
 |r::c,b::a=>pb r b::e8 c a
def Qj:∀(a:E ξ)(bs:E AB),(e8 a bs).length=bs.length
 |_,[]=>by simp[e8]
 |[],b::bs=>by simp[e8,Qj [] bs]
 |r::a,b::bs=>by simp[e8,Qj a bs]
def Qi:∀(a:E ξ)(bs:E AB)(j:O),(e8 a bs)[j]?=(bs[j]?).map (pb (a.getD j η))
 |_,[],j=>by simp[e8]
 |[],b::bs,0=>by cases b<;>simp[e8,pb]
 |[],b::bs,j+1=>by simpa[e8]using Qi [] bs j
 |r::a,b::bs,0=>by simp[e8]
 |r::a,b::bs,j+1=>by simpa[e8]using Qi a bs j
def ata{b:AB}(h:(pb q b).wr=ε):b.wr=ε:=by
 cases b with
 |row rw=>simp only[pb,AB.wr,aP]at h⊢;exact h.1
 |cells=>rfl
 |gone=>simp[pb,AB.wr]at h
def as'{b:AB}:(pb q b).live=b.live:=by cases b<;>rfl
variable {R:Nu}
variable {X:ψ}
def as_{b:AB}(h:BR R i b X):BR R i (pb q b) X:=by
 cases b with
 |row rw n m g t=>
  rcases h with⟨a,c,d⟩|⟨b,l,f,j,a,c,d,k⟩
  ·exact .inl ⟨by simp[a],c,d⟩
  ·exact .inr ⟨b,l,f,j,a,c,λe=>by simp only[aP]at e;exact d e.1,k⟩
 |cells=>exact h
 |gone=>exact h
structure HR where
 val:AV
 out:E AB
 new:E AB:=[]
 aw:E ξ:=[]
def nY:E O->E AB->E AB->E (O×AB)
 |i::a,h::b,o::c=>bif h.wr then(i,o)::nY a b c else nY a b c
 |_,_,_=>[]
def PW:∀{is:E O}{hs os:E AB}{i:O}{o:AB},(i,o)∈nY is hs os->∃(j:O)(h:AB),is[j]?=γ i/\hs[j]?=γ h/\os[j]?=γ o/\h.wr=ε
 |f::is,c::hs,g::os,i,o,a=>by
  simp only[nY]at a;have b:(i,o)∈nY is hs os->∃(j:O)(h:AB),(f::is)[j]?=γ i/\(c::hs)[j]?=γ h/\(g::os)[j]?=γ o/\h.wr=ε:=λa=>by obtain⟨j,h,k,l,m,n⟩:=PW a;exact⟨j+1,h,by simpa using k,by simpa using l,by simpa using m,n⟩
  cases d:c.wr with
  |true=>
   rw[d,a6]at a;rcases dE.1 a with e|a
   ·cases e
    exact⟨0,c,rfl,rfl,rfl,d⟩
   ·exact b a
  |false=>rw[d,be]at a;exact b a
 |[],_,_,_,_,a=>by simp[nY]at a
 |_::_,[],_,_,_,a=>by simp[nY]at a
 |_::_,_::_,[],_,_,a=>by simp[nY]at a
def aaF:∀{is:E O}{hs os:E AB}{j i:O}{h o:AB},is[j]?=γ i->hs[j]?=γ h->os[j]?=γ o->h.wr=ε->(i,o)∈nY is hs os
 |f::is,e::hs,g::os,j,i,h,o,a,b,c,d=>by
  cases j with
  |zero=>simp at a b c;subst a b c;simp[nY,d]
  |succ j=>
   have:=aaF (is:=is) (hs:=hs) (os:=os) (j:=j) (by simpa using a) (by simpa using b) (by simpa using c) d;simp only[nY];cases e.wr with
   |true=>exact l8 _ this
   |false=>exact this
 |[],_,_,_,_,_,_,a,_,_,_=>by simp at a
 |_::_,[],_,_,_,_,_,_,b,_,_=>by simp at b
 |_::_,_::_,[],_,_,_,_,_,_,c,_=>by simp at c
def YZ{i:O}{b:AB}:∀{l:E (O×AB)},(i,b)∈l->∃c,eW i l=γ c
 |p::l,h=>by
  simp only[eW];split
  ·exact⟨_,rfl⟩
  ·rename_i a
   rcases dE.1 h with e|h
   ·subst e;exact aR rfl a
   ·exact YZ h
def yW(b:AB->ξ)(a:E O)(c:E AB)(base:O):O->χ O:=λi=>bif ω i a.length then(bif b (c.getD i .gone)then a[i]?else ζ)else γ (base+(i-a.length))
def Rn(b:E ξ)(avs:E AV)(H:E AB):χ (E O×E AV×E AB):=
 match ld (reach H 400 [] (oV avs)) avs,xj (reach H 400 [] (oV avs)) H (reach H 400 [] (oV avs))with
 |some a,γ h=>cond (j0 (reach H 400 [] (oV avs))) (γ (reach H 400 [] (oV avs),a,e8 b h)) ζ
 |_,_=>ζ
def AD(c:AB->ξ)(ob:E AB->E ξ->E ξ)(e:E ξ)(a:E AV->E AB->χ HR):Spec:=λf H b=>
 match Rn e f H with
 |some q=>match a q.2.1 q.2.2 with
  |some d=>match mapA (yW c q.1 q.2.2 b) d.val,zS (yW c q.1 q.2.2 b) d.out,zS (yW c q.1 q.2.2 b) d.new with
   |some v,γ g,γ h=>cond (Ψ d.out.length q.2.2.length&&d.new.all AB.wr)
    (γ {val:=v,rd:=q.1,put:=nY q.1 q.2.2 g,new:=h,aw:=ob q.2.2 d.aw}) ζ
   |_,_,_=>ζ
  |none=>ζ
 |none=>ζ
def ea(b:E ξ)(a:E AV->E AB->χ HR):Spec:=AD AB.wr (λ_ o=>o) b a
def UH{b:AB}(h:BR R i b X)(a:b.wr=ε):∃k,R i=γ k:=by
 cases b with
 |cells d t=>obtain⟨k,l,e,_⟩:=h;exact⟨k,e⟩
 |row c n f g t=>
  rcases h with⟨e,_⟩|⟨k,l,m,o,e,_⟩
  ·simp only[AB.wr]at a
   rw[e]at a;cases a
  ·exact⟨k,e⟩
 |gone=>cases a
def LG(a:HR):Ex->E AV->E AB->Prop:=λ_ l b=>l=[a.val]/\Φ b (a.out++a.new)
def BQ(c:HR):Ex->E AV->E AB->Prop:=λ_ l e=>∃a,l=[a]/\(∀M d w v,RH M d (λb=>e.getD b .gone) w->VR d a v->VR d c.val v)/\Φ e (c.out++c.new)
structure rY (H H0:E AB):Prop where
 len:H.length=H0.length
 rh:∀{M ν w},RH M ν (λb=>H.getD b .gone) w->RH M ν (λb=>H0.getD b .gone) w
def Φ.imp{H a:E AB}(h:Φ H a):rY H a:=⟨h.length,λk=>k.iB h⟩
def Ud(c:HR):Ex->E AV->E AB->Prop:=λ_ l e=>∃a,l=[a]/\(∀M d w v,RH M d (λb=>e.getD b .gone) w->VR d a v->VR d c.val v)/\rY e (c.out++c.new)
def aq9{M:O->Prop}{ν:Nu}{H:E AB}{w:ψ}{i len n c:O}{rw:ξ}{g:O->E τ}{t:ae}{v:τ}(h:H.getD i .gone=.row rw n c g t)(k:len<=n)(j:RH M ν (λb=>H.getD b .gone) w)(d:VR ν (.own i len) v):VR ν (.sl i c 0 0 len ζ) v:=by
 simp only[VR]at d⊢;obtain⟨b,a,rfl⟩:=d;have:=j.br i;simp only[h]at this;rcases this with⟨_,_,e⟩|⟨m,l,o,p,f,_,_,q,_⟩
 ·rw[a]at e;cases e
 ·rw[a]at f;cases f
  exact⟨_,_,rfl,by simp,by omega,λ_=>⟨b,a,by simp⟩⟩
def abE{fn:cb}{p:E ξ}{a:E AV->E AB->χ HR}{sel:AB->ξ}{ob:E AB->E ξ->E ξ}(hob:∀{ν:Nu}{Hc:E AB}{o:E ξ}{w:ψ},aJ (ob Hc o)=ε->aJ o=ε/\∀j,BR ν j (Hc.getD j .gone) w->sel (Hc.getD j .gone)=ε->∃b,ν j=γ b)(hf:θ.funcs[I]?=γ fn)(u:fn.body.isSome=ε)(h:∀avs H s,a avs H=γ s->aJ s.aw=ε->∃(Γ:aG)(H0:E AB)(Λ:O->χ Sum)(n:O),aK θ Γ/\rY H H0/\(∀c,fn.body=γ c->dk θ H0.length Λ c)/\aE (ad θ Γ Λ n fn avs H0 (ag H0.length)) (Ud s)):ak θ I (AD sel ob p a):=by
 refine⟨λargs w=>enters I fn hf u args w,λavs H m δ ν vals w f ho hv hbr hlt hfree hsep htab=>?_⟩;unfold AD at f;split at f
 case h_2=>cases f
 rename_i q hq;split at f
 case h_2=>cases f
 rename_i s hF;split at f
 case h_2=>cases f
 rename_i v ou nw hval hou hnw;cases hck:(Ψ s.out.length q.2.2.length&&s.new.all AB.wr)with
 |false=>rw[hck]at f;cases f
 |true=>
 rw[hck]at f;simp only[a6,aC]at f;subst f;rw[aP]at hck;have hlen:=cA hck.1;have P:=bT.1 hck.2;unfold Rn at hq;generalize reach H 400 [] (oV avs)=d at*;split at hq
 case h_2=>cases hq
 rename_i avs' y hra hrb;cases hnd:j0 d with
 |false=>rw[hnd]at hq;cases hq
 |true=>
 rw[hnd]at hq;simp only[a6,aC]at hq;subst hq;simp only at hval hou hnw hF hlen hbr hsep ho hfree⊢;obtain⟨ho,hsel⟩:=hob (ν:=i6 d ν) (w:=w) ho;obtain⟨hl1,hg1⟩:=P' hrb;have hlHc:(e8 p y).length=d.length:=by rw[Qj,hl1]
 have nuAt:∀{j i},d[j]?=γ i->i6 d ν j=ν i:=λr=>by simp[i6,r]
 have z:∀{j b},i6 d ν j=γ b->∃i,d[j]?=γ i/\ν i=γ b:=by
  intro j b u;unfold i6 at u;split at u
  ·rename_i i R;exact⟨i,R,u⟩
  ·cases u
 have A:∀{b b':AB},kI d b=γ b'->b'.wr=b.wr/\b'.live=b.live:=by
  intro b b' u;cases b with
  |cells cs t=>simp only[kI,dL]at u;obtain⟨q,_,rfl⟩:=u;exact⟨rfl,rfl⟩
  |row=>simp only[kI,aC]at u;subst u;exact⟨rfl,rfl⟩
  |gone=>simp only[kI,aC]at u;subst u;exact⟨rfl,rfl⟩
 --the callee's block j is the caller's block d j
 have view:∀{j i},d[j]?=γ i->∃b1,y[j]?=γ b1/\kI d (H.getD i .gone)=γ b1/\(e8 p y)[j]?=γ (pb (p.getD j η) b1):=by intro j i r;obtain⟨b1,G,B⟩:=hg1 j i r;exact⟨b1,G,B,by rw[Qi,G];rfl⟩
 have wrOf:∀{j i},d[j]?=γ i->((e8 p y).getD j .gone).wr=ε->(H.getD i .gone).wr=ε:=by
  intro j i r x;obtain⟨b1,_,B,e3⟩:=view r;have:(e8 p y).getD j .gone=pb (p.getD j η) b1:=by simp[cX,e3]
  rw[this]at x;rw[<-(A B).1];exact ata x
 have liveOf:∀{j i},d[j]?=γ i->((e8 p y).getD j .gone).live=ε->(H.getD i .gone).live=ε:=by
  intro j i r x;obtain⟨b1,_,B,e3⟩:=view r;have:(e8 p y).getD j .gone=pb (p.getD j η) b1:=by simp[cX,e3]
  rw[this,as']at x;rw[<-(A B).2];exact x
 obtain⟨hlo,hgo⟩:=O7 hou;obtain⟨hln,hgn⟩:=O7 hnw;have C:∀{j i},d[j]?=γ i->((e8 p y).getD j .gone).wr=ε->∃o o',s.out[j]?=γ o/\ou[j]?=γ o'/\qa (yW sel d (e8 p y) m) o=γ o'/\(i,o')∈nY d (e8 p y) ou:=by
  intro j i r x;have hjl:j<d.length:=(fY.1 r).1;have ho:s.out[j]?=γ (s.out[j]'(by omega)):=df _;obtain⟨o',G,B⟩:=hgo j _ ho;have hh:(e8 p y)[j]?=γ ((e8 p y)[j]'(by omega)):=df _;refine⟨_,o',ho,G,B,aaF r hh G ?_⟩;have:(e8 p y).getD j .gone=(e8 p y)[j]'(by omega):=by simp[cX,hh]
  rw[<-this];exact x
 let M:O->Prop:=λk=>w.heap.size<=k\/∃j b,((e8 p y).getD j .gone).wr=ε/\i6 d ν j=γ b/\b.n=k
 have hRH:RH M (i6 d ν) (λb=>(e8 p y).getD b .gone) w:=by
  refine⟨λj=>?_,λi j b b' hne x hlv u hb'=>?_,λi b x u=>.inr ⟨i,b,x,u,rfl⟩,λi b u=>?_,htab.mono ?_⟩
  ·cases r:d[j]?with
   |none=>
    have:(e8 p y).getD j .gone=.gone:=by
     rw[cX,nk]
     ·rfl
     ·rw[hlHc]
      exact azg.1 r
    simp only[this];trivial
   |some i=>
    obtain⟨b1,G,B,e3⟩:=view r;have:(e8 p y).getD j .gone=pb (p.getD j η) b1:=by simp[cX,e3]
    simp only[this];refine as_ ?_;have hbi:=hbr i (kj r);have hν:=nuAt r;cases R:H.getD i .gone with
    |cells cs t=>rw[R]at B hbi;simp only[kI,dL]at B;obtain⟨cs',W,h2⟩:=B;rw[<-h2];obtain⟨b,l,g1,g2,g3,g4⟩:=hbi;exact⟨b,l,by rw[hν];exact g1,g2,g3,g4.rA W⟩
    |row rw' n wd g t=>
     rw[R]at B hbi;simp only[kI,aC]at B;rw[<-B];rcases hbi with⟨g1,g2,g3⟩|⟨b,l,t',fz,g1,g2⟩
     ·exact .inl ⟨g1,g2,by rw[hν];exact g3⟩
     ·exact .inr ⟨b,l,t',fz,by rw[hν];exact g1,g2⟩
    |gone=>rw[R]at B;simp only[kI,aC]at B;rw[<-B];trivial
  ·obtain⟨X,R,G⟩:=z u
   obtain⟨j',r,B⟩:=z hb';obtain⟨_,o',_,_,_,hp⟩:=C R x;refine hsep X o' j' b b' hp (kj r) (λe=>?_) (liveOf r hlv) G B;subst e;exact hne (IH hnd i j X R r)
  ·obtain⟨X,_,G⟩:=z u
   exact hlt X b G
  ·rintro k _ (hk|⟨j,b,x,u,rfl⟩)
   ·exact .inl hk
   ·obtain⟨X,R,G⟩:=z u
    obtain⟨_,o',_,_,_,hp⟩:=C R x;exact .inr ⟨X,b,_,hp,G,rfl⟩
 obtain⟨Γ,H0,Λ,n,hΓ,hsim,hL,hG⟩:=h avs' (e8 p y) s hF ho;have hl0:H0.length=d.length:=by rw[<-hsim.len,hlHc]
 have hdom0:∀i b,i6 d ν i=γ b->i<H0.length:=by intro i b u;obtain⟨X,R,_⟩:=z u;rw[hl0];exact(fY.1 R).1
 refine(nz hΓ mixed enters hf hL (λk hk=>Or.inl hk) hG.out (hv.rA hra) (hsim.rh hRH) hdom0).mono ?_;rintro e w' ⟨vv,av,He,S,rfl,⟨av2,hav,hwk,hHe⟩,hvr,hRH',hfr,hle,hdom'⟩;simp only[mE,aj]at hav;subst hav;have hvr:=hwk _ _ _ _ hRH' hvr;have N:=hHe.rh hRH';have hHl:He.length=d.length+s.new.length:=by rw[hHe.len,bN,hlen,hlHc]
 have wrNu:∀{j:O},((e8 p y).getD j .gone).wr=ε->∃b,i6 d ν j=γ b:=λx=>UH (hRH.br _) x
 let T:Nu:=λi=>match ν i with
  |some b=>γ b
  |none=>if m<=i/\i<m+nw.length then S (d.length+(i-m))else ζ
 have U:∀{i b},ν i=γ b->T i=γ b:=λ{i b} h=>by simp only[T,h]
 have D:∀{j:O},j<nw.length->T (m+j)=S (d.length+j):=λ{j} r=>by
  have h0:=hfree j r;have W:T (m+j)=if m<=m+j/\m+j<m+nw.length then S (d.length+(m+j-m))else ζ:=by
   show(match ν (m+j)with|some b=>γ b|none=>if m<=m+j/\m+j<m+nw.length then S (d.length+(m+j-m))else ζ)=_
   rw[h0]
  rw[W,aU ⟨by omega,by omega⟩,Fu]
 have mp:∀i X b,yW sel d (e8 p y) m i=γ X->S i=γ b->T X=γ b:=by
  intro i X b W h2;unfold yW at W;cases hc:ω i d.length with
  |true=>
   rw[hc,a6]at W;cases x:sel ((e8 p y).getD i .gone)with
   |false=>rw[x]at W;cases W
   |true=>rw[x,a6]at W;obtain⟨b0,L⟩:=hsel _ (hRH.br i) x;have:=hle _ _ L;rw[h2]at this;cases this;rw[nuAt W]at L;exact U L
  |false=>
   rw[hc,be,aC]at W;subst W;have hge:¬i<d.length:=λhl=>by rw[<-bM]at hl;rw[hl]at hc;cases hc
   have hd:=hdom' i b h2;have e:i=d.length+(i-d.length):=by omega
   rw[D (by rw[hln];omega),<-e];exact h2
 have outBR:∀{j:O}{o:AB},s.out[j]?=γ o->BR S j o w':=by intro j o r;have:=N.br j;have hjl:j<s.out.length:=(fY.1 r).1;simp only[cX,kN hjl,r,iK]at this;exact this
 have Q:∀{j:O}{o:AB},s.new[j]?=γ o->(s.out++s.new).getD (d.length+j) .gone=o:=by
  intro j o r;rw[cX,oi (by omega)];have:d.length+j-s.out.length=j:=by omega
  rw[this,r];rfl
 refine⟨vv,T,rfl,⟨λi b u=>U u,λi W h2=>?_,hvr.map mp hval,λi b hl=>?_,λj b r=>?_,hfr.os,hfr.tape,hfr.output,hfr.size,λk hk hne=>?_,λj b r u=>?_,λj j' b b' hne r hj' u hb'=>?_⟩⟩
 ·simp only[T,W]at h2
  split at h2
  ·assumption
  ·exact(h2 rfl).elim
 ·obtain⟨j,hh,G,B,e3,e4⟩:=PW (rb hl)
  have x:((e8 p y).getD j .gone).wr=ε:=by simp only[cX,B,iK];exact e4
  obtain⟨o,o',g1,g2,g3,_⟩:=C G x;rw[e3]at g2;cases g2;obtain⟨b0,L⟩:=wrNu x;have e5:T i=S j:=by rw[hle _ _ L];rw[nuAt G]at L;exact U L
  exact(outBR g1).map mp e5 g3
 ·have hjl:j<nw.length:=(fY.1 r).1
  have hn:s.new[j]?=γ (s.new[j]'(by omega)):=df _;obtain⟨b',G,B⟩:=hgn j _ hn;rw[r]at G;cases G;have:BR S (d.length+j) ((s.out++s.new).getD (d.length+j) .gone) w':=N.br (d.length+j);rw[Q hn]at this;exact this.map mp (D hjl) B
 ·refine hfr.block k hk λhM=>?_
  rcases hM with hM|⟨j,b,x,u,e⟩
  ·omega
  ·obtain⟨i,R,G⟩:=z u
   obtain⟨_,o',_,_,_,hp⟩:=C R x;exact hne _ b hp G e
 ·have r:j<nw.length:=r
  rw[D r]at u;refine⟨N.lt _ _ u,?_⟩;have hn:s.new[j]?=γ (s.new[j]'(by omega)):=df _;have hwn:((s.out++s.new).getD (d.length+j) .gone).wr=ε:=by rw[Q hn];exact P _ (kj hn)
  rcases N.own _ b hwn u with hM|⟨i,b0,x,L,e⟩
  ·exact .inl hM
  ·right
   obtain⟨X,R,G⟩:=z L;obtain⟨o,o',g1,g2,g3,hp⟩:=C R x;obtain⟨o2,hl2⟩:=YZ hp;refine⟨X,b0,?_,G,e⟩;have hil:i<d.length:=(fY.1 R).1;have hgone:o=.gone:=by
    cases hlv:o.live with
    |false=>cases o<;>first|rfl|cases hlv
    |true=>
     have e3:(s.out++s.new).getD i .gone=o:=by rw[cX,kN (by omega),g1];rfl
     exact(N.sep (d.length+j) i b b0 (by omega) hwn (by rw[e3];exact hlv) u (hle _ _ L) e.symm).elim
   subst hgone;have ho':=(anN g3).2.2 rfl;subst ho';obtain⟨j2,h2,f1,f2,f3,f4⟩:=PW (rb hl2);have:j2=i:=IH hnd j2 i X f1 R;subst this;rw[g2]at f3;cases f3;exact hl2
 ·have r:j<nw.length:=r
  have hj':j'<nw.length:=hj';rw[D r]at u;rw[D hj']at hb';have hn:s.new[j]?=γ (s.new[j]'(by omega)):=df _;have hn':s.new[j']?=γ (s.new[j']'(by omega)):=df _;have w1:((s.out++s.new).getD (d.length+j) .gone).wr=ε:=by rw[Q hn];exact P _ (kj hn)
  have w2:((s.out++s.new).getD (d.length+j') .gone).live=ε:=by
   rw[Q hn'];have:=P _ (kj hn')
   revert this
   cases s.new[j']'(by omega)<;>simp[AB.wr,AB.live]
  exact N.sep (d.length+j) (d.length+j') b b' (by omega) w1 w2 u hb'
def QN{Γ:aG}(e:aK θ Γ){fn:cb}{g:E ξ}{a:E AV->E AB->χ HR}(j:θ.funcs[I]?=γ fn)(k:fn.body.isSome=ε)(h:∀avs H d,a avs H=γ d->aJ d.aw=ε->∃(b:E AB)(Λ:O->χ Sum)(n:O),rY H b/\(∀c,fn.body=γ c->dk θ b.length Λ c)/\aE (ad θ Γ Λ n fn avs b (ag b.length)) (Ud d)):ak θ I (ea g a):=
 abE (λi=>⟨i,λ_=>UH⟩) j k λavs H d l i=>⟨Γ,let⟨b,Λ,n,m,o,p⟩:=h avs H d l i;⟨b,Λ,n,e,m,o,p⟩⟩
def abF{Γ:aG}(i:aK θ Γ){fn:cb}{j:E ξ}{b:E AV->E AB->χ HR}(k:θ.funcs[I]?=γ fn)(m:fn.body.isSome=ε)(h:∀avs H g,b avs H=γ g->aJ g.aw=ε->∃(d:E AB)(Λ:O->χ Sum)(n:O),Φ H d/\(∀c,fn.body=γ c->dk θ d.length Λ c)/\aE (ad θ Γ Λ n fn avs d (ag d.length)) (BQ g)):ak θ I (ea j b):=
 QN i k m λavs H g o p=>by obtain⟨d,Λ,n,q,r,s⟩:=h avs H g o p;exact⟨d,Λ,n,q.imp,r,⟨kJ (λe l w ⟨a,t,u,v⟩=>⟨a,t,u,v.imp⟩) s.out⟩⟩
def xz{Γ:aG}(g:aK θ Γ){fn:cb}{i:E ξ}{a:E AV->E AB->χ HR}(j:θ.funcs[I]?=γ fn)(k:fn.body.isSome=ε)(h:∀avs H d,a avs H=γ d->aJ d.aw=ε->∃(b:E AB)(Λ:O->χ Sum)(n:O),Φ H b/\(∀c,fn.body=γ c->dk θ b.length Λ c)/\aE (ad θ Γ Λ n fn avs b (ag b.length)) (LG d)):ak θ I (ea i a):=
 abF g j k λavs H d m o=>by obtain⟨b,Λ,n,p,q,r⟩:=h avs H d m o;exact⟨b,Λ,n,p,q,⟨kJ (λe l v ⟨s,t⟩=>⟨_,s,λ_ _ _ _ _ u=>u,t⟩) r.out⟩⟩
def awv(a:ao):ad θ H_ K 100 f134 ([dA a].map .v) [] dR=rO [AV.v (.bool (qi (w8 a) (-1000000:Z) (1000000:Z)))] []:=by kernel_rfl
def D6:ak θ 134 (aW Cz):=by
 refine et (n:=100) NR func134 rfl λj v k a l=>?_
 unfold Cz at a;split at a
 ·rename_i b c d e f g h i
  cases a;show Good (ad θ H_ K 100 f134 ([dA (v8 b c d e f g h i)].map .v) [] dR) _
  rw[awv];exact uy rfl
 ·cases a
noncomputable abbrev oS:cb:=f193
abbrev m5:Ex->E O:=cj [0,1,7,8] [] [4]
abbrev wv:AV:=.fn 194 [.ptr 1 0 0 0]
abbrev oU(m:O)(f:Θ)(t a:ae)(x:ao):E AB:=[.row η m 9 (J f) t,.cells [.v (ι (x 0)),.v (ι (x 1)),.v (ι (x 2)),.v (ι (x 3)),.v (ι (x 4)),.v (ι (x 5)),.v (ι (x 6)),.v (ι (x 7)),.v (ι (x 8))] a]
def asD(m:O)(f:Θ)(t c:ae)(x:ao)(i:O):let b:=[AB.row η m 9 (J f) t,AB.cells [vI (x 0),vI (x 1),vI (x 2),vI (x 3),vI (x 4),vI (x 5),vI (x 6),vI (x 7),vI (x 8)] c];let a:=(↑i:Z);a0 θ g0 100 K (a5 0 oS) (ar 0 19 ((m5 .normal).zip [.own 0 m,wv,.v (ι m),.v (ι i)])) (oU m f t c x) (cw 19 m5 2)
 =bif κ (a<(m:Z))then Ξ [κ (a<(m:Z)),κ (aT a<m)] (bif f (aT a) 0==x 0 then rO [vI a] b else am.out .normal [AV.own 0 m,AV.fn (194:dm) [AV.ptr 1 0 0 0],vI (m:Z),vI (aa .i64 (a+(1:Z)))] b)else am.out (Ex.exit 0) [] b:=by intros;kernel_rfl
noncomputable abbrev OA(m:O)(f:Θ)(t b:ae)(x:ao)(bad:O->ξ):O->χ Sum:=bX 0 (bm 19 (m5 .normal) 2 [.own 0 m,wv,.v (ι m),.v (ι (0:O))] (oU m f t b x) (λa=>cond (bV bad m) (a .normal (ar 0 19 []) (oU m f t b x)) (a .ret (ar 0 19 [(4,.v (ι (fF bad m)))]) (oU m f t b x))))
def awZ(m:O)(f:Θ)(t a:ae)(x:ao)(bad:O->ξ):let b:=[AB.row η m 9 (J f) t,AB.cells [vI (x 0),vI (x 1),vI (x 2),vI (x 3),vI (x 4),vI (x 5),vI (x 6),vI (x 7),vI (x 8)] a];ad θ g0 (OA m f t a x bad) 100 oS [.own 0 m,wv] (oU m f t a x) (ag 2)
 =Ξ [cy ([AV.own 0 m,AV.fn (194:dm) [AV.ptr 1 0 0 0],vI (m:Z),vI 0]=[AV.own 0 m,wv,vI (m:Z),vI 0]/\Φ b (oU m f t a x))] (bif bV bad m then rO [vI (-1:Z)] b else rO [vI (fF bad m)] b):=by intros;kernel_rfl
abbrev sv:AV:=.v (.func (.func 192) ⟨[]⟩ ⟨[]⟩)
abbrev sw:AV:=.v (.func (.func 197) ⟨[]⟩ ⟨[]⟩)
def zy(a:(O->Z)->ξ):aG:=ext lN 134 (aW (nF a))
abbrev jj(m:O)(f:Θ)(t:ae):E AB:=[.row η m 9 (J f) t]
def asE(d:(O->Z)->ξ)(m:O)(f:Θ)(t:ae)(i:O):let c:=[AB.row η m 9 (J f) t];let b:=(↑i:Z);let a:=(0+aT b);a0 θ (zy d) 100 K (a5 0 oS) (ar 0 19 ((m5 .normal).zip [.sl 0 9 0 0 m ζ,sv,.v (ι m),.v (ι i)])) (jj m f t) (cw 19 m5 1)
 =bif κ (b<(m:Z))then Ξ [κ (b<(m:Z)),κ (0+aT b<m)] (bif !aH (f a 0) (-1000:Z) (1000:Z)then rO [vI b] c else bif !d (v8 (f a 1) (f a 2) (f a 3) (f a 4) (f a 5) (f a 6) (f a 7) (f a 8))then rO [vI b] c else am.out .normal [AV.sl 0 9 0 0 m ζ,AV.v (TA (Fn.func (192:dm)) (ap []) (ap [])),vI (m:Z),vI (aa .i64 (b+(1:Z)))] c)else am.out (Ex.exit 0) [] c:=by intros;kernel_rfl
def asF(m:O)(f:Θ)(t:ae)(i:O):let d:=[AB.row η m 9 (J f) t];let c:=(↑i:Z);let a:=(0:Z);let b:=(0+aT c);a0 θ g0 100 K (a5 0 oS) (ar 0 19 ((m5 .normal).zip [.sl 0 9 0 0 m ζ,sw,.v (ι m),.v (ι i)])) (jj m f t) (cw 19 m5 1)
 =bif κ (c<(m:Z))then Ξ [κ (c<(m:Z)),κ (0+aT c<m)] (bif f b 1==a&&(f b 2==a&&(f b 3==a&&(f b 4==a&&(f b 5==a&&(f b 6==a&&(f b 7==a&&(f b 8==a&&ε)))))))&&ε then rO [vI c] d else am.out .normal [AV.sl 0 9 0 0 m ζ,AV.v (TA (Fn.func (197:dm)) (ap []) (ap [])),vI (m:Z),vI (aa .i64 (c+(1:Z)))] d)else am.out (Ex.exit 0) [] d:=by intros;kernel_rfl
noncomputable abbrev zM(fn:AV)(m:O)(f:Θ)(t:ae)(bad:O->ξ):O->χ Sum:=bX 0 (bm 19 (m5 .normal) 1 [.sl 0 9 0 0 m ζ,fn,.v (ι m),.v (ι (0:O))] (jj m f t) (λa=>cond (bV bad m) (a .normal (ar 0 19 []) (jj m f t)) (a .ret (ar 0 19 [(4,.v (ι (fF bad m)))]) (jj m f t))))
def aw0(c:(O->Z)->ξ)(m:O)(f:Θ)(t:ae)(bad:O->ξ):let a:=[AB.row η m 9 (J f) t];let b:=AV.sl 0 9 0 0 m ζ;ad θ (zy c) (zM sv m f t bad) 100 oS [.sl 0 9 0 0 m ζ,sv] (jj m f t) (ag 1)
 =Ξ [cy ([b,AV.v (TA (Fn.func (192:dm)) (ap []) (ap [])),vI (m:Z),vI 0]=[b,sv,vI (m:Z),vI 0]/\Φ a (jj m f t))] (bif bV bad m then rO [vI (-1:Z)] a else rO [vI (fF bad m)] a):=by intros;kernel_rfl
def aw1(m:O)(f:Θ)(t:ae)(bad:O->ξ):let a:=[AB.row η m 9 (J f) t];let b:=AV.sl 0 9 0 0 m ζ;ad θ g0 (zM sw m f t bad) 100 oS [.sl 0 9 0 0 m ζ,sw] (jj m f t) (ag 1)
 =Ξ [cy ([b,AV.v (TA (Fn.func (197:dm)) (ap []) (ap [])),vI (m:Z),vI 0]=[b,sw,vI (m:Z),vI 0]/\Φ a (jj m f t))] (bif bV bad m then rO [vI (-1:Z)] a else rO [vI (fF bad m)] a):=by intros;kernel_rfl
def vR(o:E Wh->O->ξ)(id:O):E SA->χ FR
 |[.row m g,.v (.func (.func f) ⟨[]⟩ ⟨[]⟩)]=>γ {val:=.v (ι (fF (o (V (ο g) m)) m)),aw:=[Ψ f id,aF m g,κ (m<=2^38)]}
 |_=>ζ
def DR:E Md:=[.rd 9 123,.val]
def awH(o:E Wh->O->ξ)(m:O)(f:Θ)(t:ae):let a:=[AB.row η m 9 (J f) t];ad θ (ext g0 193 (ai DR (vR o 192))) K 100 f112 [.sl 0 9 0 0 m ζ] [.row η m 9 (J f) t] (ag 1)
 =bif κ ((m:Z)<=(12:Z))then Ξ [Δ (0+m) m,aF m λq=>J f (0+q),κ (m<=274877906944)] (rO [AV.v (.bool !κ (fF (o (V (ο λq=>J f (0+q)) m)) m>= (0:Z)))] a)else rO [vB η] a:=by intros;kernel_rfl
def lz(f:Θ)(x:Z)(i:O):ξ:=f i 0==x
def auW(m:O)(f:Θ)(t d:ae)(x:ao)(j:m<=2^40):ck θ 2 (.block 0 (.loop (a5 0 oS))) (bm 19 (m5 .normal) 2 [.own 0 m,wv,.v (ι m),.v (ι (0:O))] (oU m f t d x) (λa=>cond (bV (lz f (x 0)) m) (a .normal (ar 0 19 []) (oU m f t d x)) (a .ret (ar 0 19 [(4,.v (ι (fF (lz f (x 0)) m)))]) (oU m f t d x)))):=by
 refine dQ ba (n:=100) (m:=2) (lv:=m5) (λi=>[.own 0 m,wv,.v (ι m),.v (ι (i:O))]) (λ_=>oU m f t d x) (λi=>bV (lz f (x 0)) i=ε) m (λ_=>K) (du rfl rfl rfl) (aQ _) rfl λa Q e i g h=>⟨cN _ _ _,?_⟩
 rw[asD];refine aD (λc=>?_) λc=>?_
 ·have c:=aV c
  have b:i<m:=by omega
  rw[cV,bz (x:=(i:Z)+1)];refine c_ ?_;refine aD (λq=>?_) λq=>?_
  ·refine F ⟨_,Φ.refl _,?_⟩
   rw[o5 b q,zt g b q]at e;exact e
  ·exact F ⟨i+1,⟨rfl,b,ro g q⟩,rfl,Φ.refl _⟩
 ·have c:=cu c
  have:i=m:=by omega
  subst this;refine F ⟨_,Φ.refl _,?_⟩;rw[aU rfl];rw[g]at e;exact e
def kS(a:(O->Z)->ξ)(f:Θ)(i:O):ξ:=bif !aH (f i 0) (-1000) 1000 then ε else !a (v8 (f i 1) (f i 2) (f i 3) (f i 4) (f i 5) (f i 6) (f i 7) (f i 8))
def auX{c:(O->Z)->ξ}(j:aK θ (zy c))(m:O)(f:Θ)(t:ae)(o:m<=2^40):ck θ 1 (.block 0 (.loop (a5 0 oS))) (bm 19 (m5 .normal) 1 [.sl 0 9 0 0 m ζ,sv,.v (ι m),.v (ι (0:O))] (jj m f t) (λa=>cond (bV (kS c f) m) (a .normal (ar 0 19 []) (jj m f t)) (a .ret (ar 0 19 [(4,.v (ι (fF (kS c f) m)))]) (jj m f t)))):=by
 refine dQ j (n:=100) (m:=1) (lv:=m5) (λi=>[.sl 0 9 0 0 m ζ,sv,.v (ι m),.v (ι (i:O))]) (λ_=>jj m f t) (λi=>bV (kS c f) i=ε) m (λ_=>K) (du rfl rfl rfl) (aQ _) rfl λa Q e i h l=>⟨cN _ _ _,?_⟩
 rw[asE];refine aD (λg=>?_) λg=>?_
 ·have g:=aV g
  have b:i<m:=by omega
  rw[cV,bH,bz (x:=(i:Z)+1)];refine c_ ?_;refine aD (λq=>?_) λq=>?_
  ·have d:kS c f i=ε:=by unfold kS;rw[q];rfl
   refine F ⟨_,Φ.refl _,?_⟩;rw[o5 b d,zt h b d]at e;exact e
  ·refine aD (λk=>?_) λk=>?_
   ·have d:kS c f i=ε:=by unfold kS;rw[q];exact k
    refine F ⟨_,Φ.refl _,?_⟩;rw[o5 b d,zt h b d]at e;exact e
   ·have d:kS c f i=η:=by unfold kS;rw[q];exact k
    exact F ⟨i+1,⟨rfl,b,ro h d⟩,rfl,Φ.refl _⟩
 ·have g:=cu g
  have:i=m:=by omega
  subst this;refine F ⟨_,Φ.refl _,?_⟩;rw[aU rfl];rw[h]at e;exact e
def qH(f:Θ)(i:O):ξ:=gV (f i)
def auY(m:O)(f:Θ)(t:ae)(h:m<=2^40):ck θ 1 (.block 0 (.loop (a5 0 oS))) (bm 19 (m5 .normal) 1 [.sl 0 9 0 0 m ζ,sw,.v (ι m),.v (ι (0:O))] (jj m f t) (λa=>cond (bV (qH f) m) (a .normal (ar 0 19 []) (jj m f t)) (a .ret (ar 0 19 [(4,.v (ι (fF (qH f) m)))]) (jj m f t)))):=by
 refine dQ ba (n:=100) (m:=1) (lv:=m5) (λi=>[.sl 0 9 0 0 m ζ,sw,.v (ι m),.v (ι (i:O))]) (λ_=>jj m f t) (λi=>bV (qH f) i=ε) m (λ_=>K) (du rfl rfl rfl) (aQ _) rfl λa Q d i e g=>⟨cN _ _ _,?_⟩
 rw[asF];refine aD (λc=>?_) λc=>?_
 ·have c:=aV c
  have b:i<m:=by omega
  rw[cV,bH,bz (x:=(i:Z)+1)];refine c_ ?_;refine aD (λq=>?_) λq=>?_
  ·refine F ⟨_,Φ.refl _,?_⟩
   rw[o5 b q,zt e b q]at d;exact d
  ·exact F ⟨i+1,⟨rfl,b,ro e q⟩,rfl,Φ.refl _⟩
 ·have c:=cu c
  have:i=m:=by omega
  subst this;refine F ⟨_,Φ.refl _,?_⟩;rw[aU rfl];rw[e]at d;exact d
def KN:E AV->E AB->χ HR
 |[.own 0 m,.fn 194 [.ptr 1 0 0 0]],[.row η n 9 g t,.cells [.v (.int .i64 a),.v (.int .i64 b),.v (.int .i64 c),.v (.int .i64 d),.v (.int .i64 e),.v (.int .i64 f),.v (.int .i64 h),.v (.int .i64 i),.v (.int .i64 j)] k]=>γ {val:=.v (ι (fF (lz (ο g) a) m)),out:=[.row η n 9 g t,.cells [.v (.int .i64 a),.v (.int .i64 b),.v (.int .i64 c),.v (.int .i64 d),.v (.int .i64 e),.v (.int .i64 f),.v (.int .i64 h),.v (.int .i64 i),.v (.int .i64 j)] k],aw:=[Ψ n m,aF m g,κ (m<=2^38)]}
 |_,_=>ζ
def v9(s a b c d e f g h:Z):O->Z:=eM ⟨s,⟨a,b,c,d,e,f,g,h⟩⟩
def apK:ak θ 193 (ea [ε] KN):=by
 refine xz ba aen rfl λv H x p u=>?_
 unfold KN at p;split at p
 ·rename_i m n g t a b c d e f h i k l
  cases p;simp only[Ω]at u;obtain⟨r,s,w,_⟩:=u;have r:=cA r;subst r;have y:=aV w;refine⟨oU n (ο g) t l (v9 a b c d e f h i k),OA n (ο g) t l (v9 a b c d e f h i k) (lz (ο g) a),100,.cons (ab.row λj o=>a7 s j o) (.cons rfl .nil),da (auW n (ο g) t l (v9 a b c d e f h i k) (by omega)),?_⟩;show aE (ad θ g0 (OA n (ο g) t l (v9 a b c d e f h i k) (lz (ο g) a)) 100 oS [.own 0 n,wv] (oU n (ο g) t l (v9 a b c d e f h i k)) (ag 2)) _
  rw[awZ];refine aq (by rw[Ω];exact⟨cG ⟨rfl,Φ.refl _⟩,rfl⟩) (aD (λq=>?_) λq=>?_)
  ·exact F ⟨by rw[CK q],.cons (ab.row λj o=>(a7 s j o).symm) (.cons rfl .nil)⟩
  ·exact F ⟨rfl,.cons (ab.row λj o=>(a7 s j o).symm) (.cons rfl .nil)⟩
 ·cases p
def ui(L:E Wh):O->ξ:=kS (λv=>bt (bq v)) (Y L)
def pL(L:E Wh):O->ξ:=qH (Y L)
def lj(f:Θ){m j:O}(a:j<m):∀k,k<9->Y (V f m) j k=f j k:=λk b=>by simp only[Y,o4 f a];exact Ry (f j) k b
def Uw(f:Θ){m j:O}(a:j<m):kS (λv=>bt (bq v)) f j=ui (V f m) j:=by simp only[ui,kS,lj f a 0 (by omega),lj f a 1 (by omega),lj f a 2 (by omega),lj f a 3 (by omega),lj f a 4 (by omega),lj f a 5 (by omega),lj f a 6 (by omega),lj f a 7 (by omega),lj f a 8 (by omega)]
def L0(f:Θ){m j:O}(a:j<m):qH f j=pL (V f m) j:=by simp only[pL,qH,gV,lj f a 1 (by omega),lj f a 2 (by omega),lj f a 3 (by omega),lj f a 4 (by omega),lj f a 5 (by omega),lj f a 6 (by omega),lj f a 7 (by omega),lj f a 8 (by omega)]
def WM:aK θ (zy (λv=>bt (bq v))):=by unfold zy;rw[qP];exact az nI D6
def apL:ak θ 193 (ai DR (vR ui 192)):=by
 refine ca WM aen rfl λf k b e=>?_
 unfold vR at b;split at b
 ·rename_i m g l
  cases b;simp only[Ω]at e;obtain⟨c,d,h,_⟩:=e;have c:=cA c;subst c;have n:=aV h;have o:bV (ui (V (ο g) m)) m=bV (kS (λv=>bt (bq v)) (ο g)) m:=DX λj a=>(Uw (ο g) a).symm
  have i:fF (ui (V (ο g) m)) m=fF (kS (λv=>bt (bq v)) (ο g)) m:=Nf λj a=>(Uw (ο g) a).symm
  refine⟨jj m (ο g) 123,zM sv m (ο g) 123 (kS (λv=>bt (bq v)) (ο g)),100,.cons (ab.row λj a=>a7 d j a) .nil,da (auX WM m (ο g) 123 (by omega)),?_⟩;show aE (ad θ (zy λv=>bt (bq v)) (zM sv m (ο g) 123 (kS (λv=>bt (bq v)) (ο g))) 100 oS [.sl 0 9 0 0 m ζ,sv] (jj m (ο g) 123) (ag 1)) _
  rw[aw0,i];refine aq (by rw[Ω];exact⟨cG ⟨rfl,Φ.refl _⟩,rfl⟩) (aD (λq=>?_) λq=>?_)
  ·exact F ⟨_,rfl,by rw[CK q],.cons (ab.row λj a=>(a7 d j a).symm) .nil⟩
  ·exact F ⟨_,rfl,rfl,.cons (ab.row λj a=>(a7 d j a).symm) .nil⟩
 ·cases b
def apM:ak θ 193 (ai DR (vR pL 197)):=by
 refine ca ba aen rfl λf k b e=>?_
 unfold vR at b;split at b
 ·rename_i m g l
  cases b;simp only[Ω]at e;obtain⟨c,d,h,_⟩:=e;have c:=cA c;subst c;have n:=aV h;have o:bV (pL (V (ο g) m)) m=bV (qH (ο g)) m:=DX λj a=>(L0 (ο g) a).symm
  have i:fF (pL (V (ο g) m)) m=fF (qH (ο g)) m:=Nf λj a=>(L0 (ο g) a).symm
  refine⟨jj m (ο g) 123,zM sw m (ο g) 123 (qH (ο g)),100,.cons (ab.row λj a=>a7 d j a) .nil,da (auY m (ο g) 123 (by omega)),?_⟩;show aE (ad θ g0 (zM sw m (ο g) 123 (qH (ο g))) 100 oS [.sl 0 9 0 0 m ζ,sw] (jj m (ο g) 123) (ag 1)) _
  rw[aw1,i];refine aq (by rw[Ω];exact⟨cG ⟨rfl,Φ.refl _⟩,rfl⟩) (aD (λq=>?_) λq=>?_)
  ·exact F ⟨_,rfl,by rw[CK q],.cons (ab.row λj a=>(a7 d j a).symm) .nil⟩
  ·exact F ⟨_,rfl,rfl,.cons (ab.row λj a=>(a7 d j a).symm) .nil⟩
 ·cases b
def afD(L:E Wh):aO L=(κ (L.length<=12)&&bV (ui L) L.length):=by
 have:=Zz (Y L) L.length;rw[uH]at this;rw[this]
 congr 1
 refine DX λj _=>?_
 simp only[oJ,ui,kS];cases aH (Y L j 0) (-1000) 1000<;>simp
def D7:ak θ 112 (ai bF vN):=by
 refine ca (az ba apL) func112 rfl λl t d i=>?_
 unfold vN at d;split at d
 ·rename_i m g
  cases d;simp only[Ω]at i;obtain⟨k,n,_⟩:=i;have u:=aV n;refine⟨[.row η m 9 (J (ο g)) 123],K,100,.cons (ab.row λj f=>a7 k j f) .nil,de _,?_⟩;show aE (ad θ (ext g0 193 (ai DR (vR ui 192))) K 100 f112 [.sl 0 9 0 0 m ζ] [.row η m 9 (J (ο g)) 123] (ag 1)) _
  rw[awH];have e:=afD (V (ο g) m);rw[cR]at e;have a:∀b,aO (V (ο g) m)=b->aE (.out .ret [.v (.bool b)] [.row η m 9 (J (ο g)) 123]) (dX (bJ bF [.row m g] []) {val:=.v (.bool (aO (V (ο g) m))),aw:=[aF m g,κ (m<=2^39)]}):=λb r=>F ⟨_,rfl,by rw[r],.cons (ab.row λj f=>(a7 k j f).symm) .nil⟩
  have z:(λq=>J (ο g) (0+q))=J (ο g):=by funext q;rw[bH]
  rw[z,cZ,aky,Bool.not_not];refine aD (λc=>?_) λc=>?_
  ·have s:=aV c
   have h:m<=12:=by omega
   refine aq (by simp only[Ω,ax,aj];exact⟨by rw[bH];simp,dn _ _,dc⟩) (a _ (e.trans (by rw[di h];rfl)))
  ·have s:=cu c
   have h:¬m<=12:=by omega
   exact a _ (e.trans (by rw[gN h];rfl))
 ·cases d
abbrev zo:AV:=.fn 197 []
noncomputable abbrev ut:cb:=f196
abbrev Dq:Ex->E O:=cj [0,1,5,6] [0,5] [4]
abbrev fg(m:O)(h:Θ)(t:ae):E AB:=[.row ε m 9 (J h) t]
abbrev xC(m k j:O):E AV:=[.own 0 m,zo,.v (ι k),.v (ι j)]
def asr(m:O)(h:Θ)(t:ae)(k j:O):let d:=(↑k:Z);let c:=(0:Z);let e:=(↑j:Z);let f:=[AB.row ε m 9 (J h) t];let g:=AV.fn (197:dm) [];let a:=(aT e);let b:=(aT d);let i:=vI (aa .i64 (e+(1:Z)));a0 θ g0 100 K (a5 0 ut) (ar 0 42 ((Dq .normal).zip (xC m k j))) (fg m h t) (cw 42 Dq 1)
 =bif κ (e<(m:Z))then Ξ [κ (e<(m:Z)),κ (aT e<m)] (bif !(h a 1==c&&(h a 2==c&&(h a 3==c&&(h a 4==c&&(h a 5==c&&(h a 6==c&&(h a 7==c&&(h a 8==c&&ε)))))))&&ε)then Ξ [κ (d<(m:Z)),κ (aT d<m)] (am.out .normal [AV.own 0 m,g,vI (aa .i64 (d+(1:Z))),i] [AB.row ε m 9 (λq=>[ι (bif Ψ q b then h a 0 else h q 0),ι (bif Ψ q b then h a 1 else h q 1),ι (bif Ψ q b then h a 2 else h q 2),ι (bif Ψ q b then h a 3 else h q 3),ι (bif Ψ q b then h a 4 else h q 4),ι (bif Ψ q b then h a 5 else h q 5),ι (bif Ψ q b then h a 6 else h q 6),ι (bif Ψ q b then h a 7 else h q 7),ι (bif Ψ q b then h a 8 else h q 8)]) t])else am.out .normal [AV.own 0 m,g,vI d,i] f)else am.out (Ex.exit 0) [AV.own 0 m,vI d] f:=by intros;kernel_rfl
def zv(o:E Wh->O->ξ):aG:=ext g0 193 (ai DR (vR o 197))
noncomputable abbrev Ir(m b c:O)(h:Θ)(t:ae)(k:O)(d:Θ):O->χ Sum:=bX 0 (bm 42 (Dq .normal) 1 (xC m b c) (fg m h t) (λa=>a .normal (ar 0 42 [(0,.own 0 m),(5,.v (ι k))]) (fg m d t)))
def aco(o:E Wh->O->ξ)(m l n:O)(h:Θ)(t:ae)(k:O)(a:Θ):let b:=(0:Z);let g:=(o (V (ο (J h)) m));let e:=(↑k:Z);let p:=[AB.row ε m 9 (J h) t];let f:=(m:Z);let i:=Δ m m;let r:=κ (e<=f);let c:=(aT e+aT (f-e));let d:=(aT e);let j:=κ (f<=f);ad θ (zv o) (Ir m l n h t k a) 100 ut [.own 0 m,zo] (fg m h t) (ag 1)
 =Ξ [i,aF m (J h),κ (m<=274877906944)] (bif fF g m==(-1:Z)then rO [AV.own 0 m] p else Ξ [cy ([AV.own 0 m,AV.fn (197:dm) [],vI (fF g m),vI (aa .i64 (fF g m+(1:Z)))]=xC m l n/\Φ p (fg m h t)),r,j,j,i,Δ c m,r,j,i] (rO [AV.sl 0 9 0 0 (aT (e-b)) ζ] [AB.row ε m 9 (λq=>[ι (bif Δ d q&&ω q c then b else a q 0),ι (bif Δ d q&&ω q c then b else a q 1),ι (bif Δ d q&&ω q c then b else a q 2),ι (bif Δ d q&&ω q c then b else a q 3),ι (bif Δ d q&&ω q c then b else a q 4),ι (bif Δ d q&&ω q c then b else a q 5),ι (bif Δ d q&&ω q c then b else a q 6),ι (bif Δ d q&&ω q c then b else a q 7),ι (bif Δ d q&&ω q c then b else a q 8)]) t])):=by intros;kernel_rfl
def B2{a b:O}(h:a≠b):Ψ a b=η:=by
 cases c:Ψ a b with
 |false=>rfl
 |true=>exact(h (cA c)).elim
abbrev gu(f:Θ)(j:O):O:=(bQ (V f j)).length
abbrev nJ(f:Θ)(m j:O):O->O->Z:=Y (gQ f m j)
def ama{f g:O->Z}(h:∀k,k<9->f k=g k):gV f=gV g:=by simp only[gV,h 1 (by omega),h 2 (by omega),h 3 (by omega),h 4 (by omega),h 5 (by omega),h 6 (by omega),h 7 (by omega),h 8 (by omega)]
def auL(m b:O)(f:Θ)(t:ae)(u:m<=2^38)(v:b<=m):ck θ 1 (.block 0 (.loop (a5 0 ut))) (bm 42 (Dq .normal) 1 (xC m (gu f b) b) (fg m (nJ f m b) t) (λa=>a .normal (ar 0 42 [(0,.own 0 m),(5,.v (ι (gu f m)))]) (fg m (nJ f m m) t))):=by
 refine dQ ba (n:=100) (m:=1) (lv:=Dq) (λi=>xC m (gu f (b+i)) (b+i)) (λi=>fg m (nJ f m (b+i)) t) (λ_=>True) (m-b) (λ_=>K) (du rfl rfl rfl) (aQ _) trivial λa Q g i x l=>⟨cN _ _ _,?_⟩
 have y:gu f (b+i)<=b+i:=wY f (b+i);rw[asr];refine aD (λd=>?_) λd=>?_
 ·have d:=aV d
  have c:b+i<m:=by omega
  have o:aa aY (((b+i:O):Z)+1)=((b+(i+1):O):Z):=by rw[bz];omega
  have p:aa aY (((gu f (b+i):O):Z)+1)=((gu f (b+i)+1:O):Z):=by rw[bz];omega
  have r:gV (nJ f m (b+i) (b+i))=gV (f (b+i)):=ama (Vw f (aQ _) c);simp only[cV];rw[o,p];refine c_ ?_;show aE (cond (!(gV (nJ f m (b+i) (b+i)))) _ _) _
  rw[r];cases q:gV (f (b+i))with
  |true=>
   have h:=ahX (m:=m) q;have j:=DW q;refine F ⟨i+1,⟨rfl,by omega,trivial⟩,?_,?_⟩
   ·show _=xC m (bQ (V f (b+i+1))).length (b+(i+1))
    rw[j]
   ·show Φ _ (fg m (Y (gQ f m (b+i+1))) t)
    rw[h];exact Φ.refl _
  |false=>
   have h:=ahV c q;have j:=DV q;refine c_ (F ⟨i+1,⟨rfl,by omega,trivial⟩,?_,?_⟩)
   ·show _=xC m (bQ (V f (b+i+1))).length (b+(i+1))
    rw[j,bN];rfl
   ·show Φ _ (fg m (Y (gQ f m (b+i+1))) t)
    rw[h];refine .cons (ab.row λq z=>?_) .nil;show J (λq k=>bif Ψ q (gu f (b+i))then nJ f m (b+i) (b+i) k else nJ f m (b+i) q k) q=_
    refine Jb λk g=>?_
    rw[Rx _ _ _ _ (by rw[ahU f (by omega)];show gu f (b+i)<m;omega)];by_cases e:q=gu f (b+i)
    ·rw[e,aU rfl,show Ψ (gu f (b+i)) (gu f (b+i))=ε from mG _,a6,Ry (f (b+i)) k g]
     exact Vw f (aQ _) c k g
    ·rw[bI e,B2 e,be]
 ·have d:=cu d
  have:b+i=m:=by omega
  rw[this];have s:i=m-b:=by omega
  refine F ⟨_,Φ.refl _,?_⟩;rw[aU rfl];exact g
def KK:E AV->E AB->χ HR
 |[.own 0 m,.fn a []],[.row ε n 9 g t]=>γ {val:=.sl 0 9 0 0 (bQ (V (ο g) m)).length ζ,out:=[.row ε m 9 (J (Y (bQ (V (ο g) m)))) t],aw:=[Ψ a 197,Ψ n m,aF m g,κ (m<=2^38)]}
 |_,_=>ζ
def akV:aK θ (zv pL):=az ba apM
def apo:ak θ 196 (ea [] KK):=by
 refine abF akV func196 rfl λS H hr s N=>?_
 unfold KK at s;split at s
 ·rename_i m fi n g t
  cases s;simp only[Ω]at N;obtain⟨y,z,T,U,_⟩:=N;have z:=cA z;have y:=cA y;subst z y;have A:=aV U;have W:∀j,j<n->g j=J (ο g) j:=λj b=>a7 T j b
  generalize ο g=f at*;have P:V (ο (J (Y (V f n)))) n=V f n:=by
   have:=uH (V f n)
   rwa [cR]at this
  have Q:fF (pL (V f n)) n=fF (λj=>gV (f j)) n:=Nf λj b=>(L0 f b).symm
  have h:∀a,a<=n->gQ f n a=V f n->aE (ad θ (zv pL) (Ir n (gu f a) a (nJ f n a) t (gu f n) (nJ f n n)) 100 ut [.own 0 n,zo] (fg n (nJ f n a) t) (ag 1)) (BQ {val:=.sl 0 9 0 0 (bQ (V f n)).length ζ,out:=[.row ε n 9 (J (Y (bQ (V f n)))) t],aw:=[Ψ 197 197,Ψ n n,aF n g,κ (n<=2^38)]})->
    ∃(u:E AB)(R:O->χ Sum)(B:O),Φ [.row ε n 9 g t] u/\(∀c,ut.body=γ c->dk θ u.length R c)/\aE (ad θ (zv pL) R B ut [.own 0 n,zo] u (ag u.length)) (BQ {val:=.sl 0 9 0 0 (bQ (V f n)).length ζ,out:=[.row ε n 9 (J (Y (bQ (V f n)))) t],aw:=[Ψ 197 197,Ψ n n,aF n g,κ (n<=2^38)]}):=by
   intro a b e X;refine⟨_,_,100,.cons (ab.row λj b=>?_) .nil,da (auL n a f t A b),X⟩;rw[W j b];show J f j=J (Y (gQ f n a)) j
   rw[e,aa5 f b]
  have C:bQ (V f n)=V f n->aE (.out .ret [.own 0 n] [.row ε n 9 (J (Y (V f n))) t]) (BQ {val:=.sl 0 9 0 0 (bQ (V f n)).length ζ,out:=[.row ε n 9 (J (Y (bQ (V f n)))) t],aw:=[Ψ 197 197,Ψ n n,aF n g,κ (n<=2^38)]}):=λe=>by rw[e,cR];exact F ⟨_,rfl,λM ν w v hR D=>aq9 rfl (aQ _) hR D,Φ.refl _⟩
  rcases Ht (λj=>gV (f j)) n with⟨G,I⟩|⟨d,q0,G,q3,q4,I⟩
  ·have p:gQ f n 0=V f n:=rfl
   refine h 0 (ej _) p ?_;show aE (ad θ (zv pL) (Ir n (gu f 0) 0 (Y (gQ f n 0)) t (gu f n) (nJ f n n)) 100 ut [.own 0 n,zo] (fg n (Y (gQ f n 0)) t) (ag 1)) _
   rw[p,aco,P,Q,I];exact aq (by simp only[Ω,ax,aj,dn,aL];exact⟨by simp,trivial,A⟩) (cv rfl (C (Pm G)))
  ·obtain⟨p,e1⟩:=ahW q0 G q3
   refine h (d+1) (by omega) p ?_;have ek:gu f (d+1)=d:=e1;have hk:gu f n<=n:=wY f n;show aE (ad θ (zv pL) (Ir n (gu f (d+1)) (d+1) (Y (gQ f n (d+1))) t (gu f n) (nJ f n n)) 100 ut [.own 0 n,zo] (fg n (Y (gQ f n (d+1))) t) (ag 1)) _
   rw[p,ek,aco,P,Q,I];refine aq (by simp only[Ω,ax,aj,dn,aL];exact⟨by simp,trivial,A⟩) (bA (by simp) ?_);rw[bz (x:=(d:Z)+1)];simp only[cV,adB];rw[show aT ((n:Z) -(gu f n:O))=n-gu f n by omega,show gu f n+(n-gu f n)=n by omega];refine aq ?_ (F ⟨_,rfl,λ_ _ _ _ _ D=>D,.cons (ab.row λq hq=>?_) .nil⟩)
   ·simp only[Ω,ax,aj,aL,bl]
    refine⟨cG ⟨rfl,Φ.refl _⟩,?_⟩;omega
   ·show J (λq k=>bif Δ (gu f n) q&&ω q n then 0 else nJ f n n q k) q=_
    refine Jb λk hk9=>?_
    have b1:ω q n=ε:=by rw[bM];exact hq
    rw[b1,jb];by_cases r:q<gu f n
    ·have L:Δ (gu f n) q=η:=by
      cases hb:Δ (gu f n) q with
      |false=>rfl
      |true=>rw[bl]at hb;omega
     rw[L,be];simp only[Y,gQ,kN r]
    ·have L:Δ (gu f n) q=ε:=by rw[bl];omega
     rw[L,a6,ayy (show(bQ (V f n)).length<=q from ad8 r)]
 ·cases s
noncomputable abbrev su:cb:=f276
def awz(a b:Z):ad θ g0 K 100 f200 ([ι a,ι b].map .v) [] dR=bif a !=a then bif b !=b then rO [vI 0] []else rO [vI (-1:Z)] []else bif b !=b then rO [vI 1] []else bif κ (a<b)then rO [vI (-1:Z)] []else bif κ (a>b)then rO [vI 1] []else rO [vI 0] []:=by kernel_rfl
def wb(a b:Z):Z:=bif κ (a<b)then-1 else bif κ (a>b)then 1 else 0
def MR:E τ->χ (τ×E ξ)
 |[.int .i64 a,.int .i64 b]=>γ (.int .i64 (wb a b),[])
 |_=>ζ
def ao9:ak θ 200 (aW MR):=by
 refine et (n:=100) ba func200 rfl λf v g c h=>?_
 unfold MR at c;split at c
 ·rename_i a b
  cases c;show Good (ad θ g0 K 100 f200 ([ι a,ι b].map .v) [] dR) _
  rw[awz];refine uy ?_;have d:(a !=a)=η:=by simp
  have e:(b !=b)=η:=by simp
  rw[d,e,be,be];show z_ (cond (κ (a<b)) (rv (ι (-1))) (cond (κ (a>b)) (rv (ι 1)) (rv (ι 0))))=_
  simp only[xe,uQ,B',Vg,wb]
 ·cases c
def akQ:aG:=ext g0 200 (aW MR)
def akR:aK θ akQ:=az ba ao9
def ME(c:Z->Z->Z):E τ->χ (τ×E ξ)
 |[.agg ⟨[.int .i64 a,.int .i64 _,.int .i64 _,.int .i64 _,.int .i64 _,.int .i64 _,.int .i64 _,.int .i64 _,.int .i64 _]⟩,.agg ⟨[.int .i64 b,.int .i64 _,.int .i64 _,.int .i64 _,.int .i64 _,.int .i64 _,.int .i64 _,.int .i64 _,.int .i64 _]⟩]=>γ (.int .i64 (c a b),[])
 |_=>ζ
def aoT:ak θ 199 (aW (ME wb)):=by
 refine et (n:=100) akR func199 rfl λb v c a d=>?_
 unfold ME at a;split at a
 ·cases a
  exact one (by kernel_rfl)
 ·cases a
def CO(c:Z->Z->Z):aG:=ext g0 199 (aW (ME c))
abbrev zp:AV:=.fn 199 []
abbrev uJ:Ex->E O:=cj [0,1,2,3,8,9] [0,1,2,3,8] []
abbrev wR:Ex->E O:=cj [0,1,2,3,8] [] []
abbrev AA(m:O):AV:=.sl 0 9 0 0 m ζ
abbrev xF(m i j:O):E AV:=[AA m,.v (ι 0),.v (ι m),zp,.v (ι i),.v (ι j)]
abbrev tk(m i:O):E AV:=[AA m,.v (ι 0),.v (ι m),zp,.v (ι i)]
def asC(c:Z->Z->Z)(m n:O)(h:Θ)(t:ae)(i j:O):let f:=(↑j:Z);let o:=κ (0+aT f<n);let g:=[AB.row ε n 9 (J h) t];let k:=AV.fn (199:dm) [];let d:=(m:Z);let l:=AV.sl 0 9 0 0 m ζ;let a:=(0+aT f);let p:=(f-(1:Z));let w:=[l,vI 0,vI d,k,vI (↑i:Z)];let r:=κ ((0:Z)<=aa .i64 p);let s:=κ (aa .i64 p<d);let u:=κ (f<d);let e:=(aa .i64 p);let b:=(0+aT e);let v:=κ (0+aT e<n);a0 θ (CO c) 100 K (a5 2 su) (ar 0 53 ((uJ .normal).zip (xF m i j))) (fg n h t) (cw 53 uJ 1)
 =bif κ (f> (0:Z))then Ξ [u,o,r,s,v] (bif κ (c (h a 0) (h b 0)<(0:Z))then Ξ [r,s,v,u,o,u,o,r,s,v] (am.out .normal [l,vI 0,vI d,k,vI (↑i:Z),vI e] [AB.row ε n 9 (λq=>[ι (bif Ψ q b then h a 0 else bif Ψ q a then h b 0 else h q 0),ι (bif Ψ q b then h a 1 else bif Ψ q a then h b 1 else h q 1),ι (bif Ψ q b then h a 2 else bif Ψ q a then h b 2 else h q 2),ι (bif Ψ q b then h a 3 else bif Ψ q a then h b 3 else h q 3),ι (bif Ψ q b then h a 4 else bif Ψ q a then h b 4 else h q 4),ι (bif Ψ q b then h a 5 else bif Ψ q a then h b 5 else h q 5),ι (bif Ψ q b then h a 6 else bif Ψ q a then h b 6 else h q 6),ι (bif Ψ q b then h a 7 else bif Ψ q a then h b 7 else h q 7),ι (bif Ψ q b then h a 8 else bif Ψ q a then h b 8 else h q 8)]) t])else am.out (Ex.exit 2) w g)else am.out (Ex.exit 2) w g:=by intros;kernel_rfl
noncomputable abbrev YB(m n i:O)(h:Θ)(t:ae)(b:Θ):O->χ Sum:=bX 2 (bm 53 (uJ .normal) 1 (xF m i i) (fg n h t) (λa=>a .normal (ar 0 53 ([0,1,2,3,8].zip (tk m i))) (fg n b t)))
def asA(c:Z->Z->Z)(m n:O)(h:Θ)(t:ae)(i:O)(b:Θ):let a:=(↑i:Z);let d:=[AB.row ε n 9 (J h) t];let e:=AV.fn (199:dm) [];let f:=AV.sl 0 9 0 0 m ζ;a0 θ (CO c) 100 (YB m n i h t b) (a5 0 su) (ar 0 53 ((wR .normal).zip (tk m i))) (fg n h t) (cw 53 wR 1)
 =bif κ (a<(m:Z))then Ξ [cy ([f,vI 0,vI (m:Z),e,vI a,vI a]=xF m i i/\Φ d (fg n h t))] (am.out .normal [f,vI 0,vI (m:Z),e,vI (aa .i64 (a+(1:Z)))] [AB.row ε n 9 (J b) t])else am.out (Ex.exit 0) [] d:=by intros;kernel_rfl
noncomputable abbrev Oz(m n:O)(h:Θ)(t:ae)(b:Θ):O->χ Sum:=bX 0 (bm 53 (wR .normal) 1 (tk m 1) (fg n h t) (λa=>a .normal (ar 0 53 []) (fg n b t)))
def awY(m n:O)(h:Θ)(t:ae)(a:Θ):ad θ g0 (Oz m n h t a) 100 su [AA m,.v (ι 0),.v (ι m),zp] (fg n h t) (ag 1)=Ξ [cy ([AV.sl 0 9 0 0 m ζ,vI 0,vI (m:Z),AV.fn (199:dm) [],vI 1]=tk m 1/\Φ [AB.row ε n 9 (J h) t] (fg n h t))] (rO [AV.af []] [AB.row ε n 9 (J a) t]):=by kernel_rfl
def iv:Sum:=λ_ _ _=>.err
def asB(c:Z->Z->Z)(m n:O)(h:Θ)(t:ae)(i:O):a0 θ (CO c) 100 (bX 2 iv) (a5 0 su) (ar 0 53 ((wR .normal).zip (tk m i))) (fg n h t) (cw 53 wR 1)=bif κ ((↑i:Z)<(m:Z))then am.err else am.out (Ex.exit 0) [] [AB.row ε n 9 (J h) t]:=by kernel_rfl
def ur{b:bc}:ck P i b iv:=by intro M g d hM e T H c Q a w h f;exact f.elim
def K_(o:E Wh->E Wh):E AV->E AB->χ HR
 |[.sl 0 9 0 0 m ζ,.v (.int .i64 0),.v (.int .i64 b),.fn a []],[.row ε n 9 g t]=>γ {val:=.af [],out:=[.row ε m 9 (J (Y (o (V (ο g) m)))) t],aw:=[Ψ a 199,κ (b=m),Δ m n,aF n g,κ (m<=2^38)]}
 |_,_=>ζ
def wL{m0 id:O}{S:Sum}{c f:bc}(h:nB id f=[.block id (.loop c)])(g:ck P m0 (.block id (.loop c)) S):dk P m0 (bX id S) f:=by
 intro j i d b e;unfold bX at d;cases a:Ψ j id with
 |false=>rw[a]at d;cases d
 |true=>rw[a]at d;cases d;rw[cA a]at e;rw[h]at e;simp at e;subst e;exact g
def ahr(a b:Z):κ (wb a b<0)=κ (a<b):=by
 unfold wb;by_cases h:a<b
 ·rw[di h];rfl
 ·by_cases c:a>b
  ·rw[gN h,di c];rfl
  ·rw[gN h,gN c];rfl
def acR(L:E Wh)(j:O):Y L j 0=gW L j:=by unfold Y gW;cases L[j]?<;>rfl
def WL:aK θ (CO wb):=az ba aoT
def auV(m i:O)(c:E Wh)(t:ae)(y:m<=2^38)(z:i<m)(r:c.length=m):ck θ 1 (.block 2 (.loop (a5 2 su))) (bm 53 (uJ .normal) 1 (xF m i i) (fg m (Y c) t) (λa=>a .normal (ar 0 53 ([0,1,2,3,8].zip (tk m i))) (fg m (Y (lf i c)) t))):=by
 refine Dd WL (n:=100) (m:=1) (m0:=1) (lv:=uJ) (σ:=E Wh×O) (λs=>xF m i s.2) (λs=>fg m (Y s.1) t) (λs=>s.1.length=m/\s.2<=i/\lf s.2 s.1=lf i c) (λs=>s.2) (c,i) (λ_=>K) (du rfl rfl rfl) (aQ _) ⟨r,aQ _,rfl⟩ λa Q g s u=>⟨cN _ _ _,?_⟩
 obtain⟨L,j⟩:=s;obtain⟨p,v,h⟩:=u;simp only at p v h;have done:lf j L=L->aE (.out (.exit 2) (tk m i) (fg m (Y L) t)) (vW 53 2 uJ (λs:E Wh×O=>xF m i s.2) (λs=>fg m (Y s.1) t) (λd=>(d.1.length=m/\d.2<=i/\lf d.2 d.1=lf i c)/\d.2<j) a Q):=λe=>by refine F ⟨_,Φ.refl _,?_⟩;rw[aU rfl];rw[<-h,e]at g;exact g
 show aE (a0 θ (CO wb) 100 K (a5 2 su) (ar 0 53 ((uJ .normal).zip (xF m i j))) (fg m (Y L) t) (cw 53 uJ 1)) _
 rw[asC];refine aD (λf=>?_) λf=>?_
 ·have f:=aV f
  obtain⟨j,rfl⟩:∃q,j=q+1:=⟨j-1,by omega⟩;have w:aa aY (((j+1:O):Z) -1)=(j:Z):=by rw[bz];omega
  simp only[w,cV,bH];refine c_ ?_;rw[ahr,acR,acR];refine aD (λb=>?_) λb=>?_
  ·have b:=aV b
   have x:lf (j+1) L=lf j (lg L j):=by rw[lf,aU b]
   refine c_ (F ⟨(lg L j,j),⟨⟨by rw[abW];exact p,by show j<=i;omega,by rw[<-h,x]⟩,fA j⟩,rfl,.cons (ab.row λq D=>?_) .nil⟩);show J (λq k=>bif Ψ q j then Y L (j+1) k else bif Ψ q (j+1)then Y L j k else Y L q k) q=J (Y (lg L j)) q
   refine Jb λk g=>?_
   rw[ayz L j q (by omega)];by_cases l:q=j
   ·rw[l,aU rfl,show Ψ j j=ε from mG j,a6]
   ·rw[bI l,B2 l,be]
    by_cases o:q=j+1
    ·rw[o,aU rfl,show Ψ (j+1) (j+1)=ε from mG _,a6]
    ·rw[bI o,B2 o,be]
  ·have b:=cu b
   exact done (by rw[lf,bI b])
 ·have f:=cu f
  have:j=0:=by omega
  subst this;exact done rfl
def at'(L:E Wh)(n:O):(rD L n).length=L.length:=(Jm L n).length_eq
def auU(m:O)(L:E Wh)(t:ae)(f:m<=2^38)(e:L.length=m):ck θ 1 (.block 0 (.loop (a5 0 su))) (bm 53 (wR .normal) 1 (tk m 1) (fg m (Y L) t) (λa=>a .normal (ar 0 53 []) (fg m (Y (l0 L)) t))):=by
 refine dQ WL (n:=100) (m:=1) (m0:=1) (lv:=wR) (λi=>tk m (i+1)) (λi=>fg m (Y (rD L (i+1))) t) (λ_=>True) (m-1) (λi=>bif ω (i+1) m then YB m m (i+1) (Y (rD L (i+1))) t (Y (lf (i+1) (rD L (i+1))))else bX 2 iv) (du rfl rfl rfl) (aQ _) trivial λa Q g i _ h=>?_
 by_cases d:i+1<m
 ·have b:ω (i+1) m=ε:=by rw[bM];exact d
  rw[b,a6];refine⟨wL (by kernel_rfl) (auV m (i+1) (rD L (i+1)) t f d (by rw[at'];exact e)),?_⟩;rw[asA];refine cv (dc) (aq (by rw[Ω];exact⟨cG ⟨rfl,Φ.refl _⟩,rfl⟩) ?_);rw[bz (x:=((i+1:O):Z)+1)];exact F ⟨i+1,⟨rfl,by omega,trivial⟩,rfl,Φ.refl _⟩
 ·have b:ω (i+1) m=η:=by
   cases j:ω (i+1) m with
   |false=>rfl
   |true=>rw[bM]at j;omega
  rw[b,be];refine⟨wL (c:=a5 2 su) (by kernel_rfl) ur,?_⟩;have k:rD L (i+1)=l0 L:=by
   unfold l0;rw[e];by_cases l:m=0
   ·have:i=0:=by omega
    subst this l;rfl
   ·rw[show i+1=m by omega]
  rw[k,asB];refine bA (gF) (F ⟨_,Φ.refl _,?_⟩);rw[aU rfl];exact g
def TR:E AV->E AB->χ HR:=K_ l0
def apO:ak θ 276 (ea [] TR):=by
 refine xz ba func276 rfl λi H p a h=>?_
 unfold TR K_ at a;split at a
 ·rename_i m b q n g t
  cases a;simp only[Ω]at h;obtain⟨c,d,e,k,f,_⟩:=h;have c:=cA c;have d:=aV d;have f:=aV f;have e:=qt e;subst c d;have l:(V (ο g) m).length=m:=cR _ _;refine⟨fg m (Y (V (ο g) m)) t,Oz m m (Y (V (ο g) m)) t (Y (l0 (V (ο g) m))),100,.cons (ab.cut e λj o=>?_) .nil,da (auU m (V (ο g) m) t f l),?_⟩
  ·rw[aa5 _ o]
   exact a7 k j (by omega)
  ·show aE (ad θ g0 (Oz m m (Y (V (ο g) m)) t (Y (l0 (V (ο g) m)))) 100 su [AA m,.v (ι 0),.v (ι m),zp] (fg m (Y (V (ο g) m)) t) (ag 1)) _
   rw[awY];exact aq (by rw[Ω];exact⟨cG ⟨rfl,Φ.refl _⟩,rfl⟩) (F ⟨rfl,Φ.refl _⟩)
 ·cases a
noncomputable abbrev VX:cb:=f198
def WZ(o:E Wh->E Wh):aG:=ext g0 276 (ea [] (K_ o))
def axz(o:E Wh->E Wh)(n:O)(g:O->E τ)(t:ae):∀m,m<=12->ad θ (WZ o) K 100 VX [AA m,zp] [.row ε n 9 g t] (ag 1)=Ξ [Δ m n,aF n g] (.out .ret [.af []] [.row ε m 9 (J (Y (o (V (ο g) m)))) t])
 |0,_=>by kernel_rfl
 |1,_=>by kernel_rfl
 |2,_=>by kernel_rfl
 |3,_=>by kernel_rfl
 |4,_=>by kernel_rfl
 |5,_=>by kernel_rfl
 |6,_=>by kernel_rfl
 |7,_=>by kernel_rfl
 |8,_=>by kernel_rfl
 |9,_=>by kernel_rfl
 |10,_=>by kernel_rfl
 |11,_=>by kernel_rfl
 |12,_=>by kernel_rfl
 |n+13,h=>aR h (by omega)
def Lv(o:E Wh->E Wh):E AV->E AB->χ HR
 |[.sl 0 9 0 0 m ζ,.fn a []],[.row ε n 9 g t]=>γ {val:=.af [],out:=[.row ε m 9 (J (Y (o (V (ο g) m)))) t],aw:=[Ψ a 199,Δ m n,aF n g,κ (m<=12)]}
 |_,_=>ζ
def aqt:ak θ 198 (ea [] (Lv l0)):=by
 refine xz (az ba apO) func198 rfl λe H i a d=>?_
 unfold Lv at a;split at a
 ·rename_i m j n g t
  cases a;simp only[Ω]at d;obtain⟨b,f,h,c,_⟩:=d;have b:=cA b;have c:=aV c;subst b;refine⟨[.row ε n 9 g t],K,100,Φ.refl _,de _,?_⟩;show aE (ad θ (WZ l0) K 100 VX [AA m,zp] [.row ε n 9 g t] (ag 1)) _
  rw[axz _ _ _ _ m c];exact aq (by simp only[Ω,ax,aj];exact⟨f,h⟩) (F ⟨rfl,Φ.refl _⟩)
 ·cases a
def T6(o:(O->O->Z)->Z->O->Z):E AV->E AB->χ HR
 |[.own 0 m,.fn 194 [.ptr 1 0 0 0]],[.row η n 9 g t,.cells [.v (.int .i64 a),.v (.int .i64 b),.v (.int .i64 c),.v (.int .i64 d),.v (.int .i64 e),.v (.int .i64 f),.v (.int .i64 h),.v (.int .i64 i),.v (.int .i64 j)] k]=>γ {val:=.v (ι (o (ο g) a m)),out:=[.row η n 9 g t,.cells [.v (.int .i64 a),.v (.int .i64 b),.v (.int .i64 c),.v (.int .i64 d),.v (.int .i64 e),.v (.int .i64 f),.v (.int .i64 h),.v (.int .i64 i),.v (.int .i64 j)] k],aw:=[Ψ n m,aF m g,κ (m<=2^38)]}
 |_,_=>ζ
def ss(a:(O->Z)->(O->Z)->O->Z):E τ->χ (τ×E ξ)
 |[.agg ⟨[.int .i64 b,.int .i64 c,.int .i64 d,.int .i64 e,.int .i64 f,.int .i64 g,.int .i64 h,.int .i64 i]⟩,.agg ⟨[.int .i64 j,.int .i64 k,.int .i64 l,.int .i64 m,.int .i64 n,.int .i64 o,.int .i64 p,.int .i64 q]⟩]=>γ (dA (a (v8 b c d e f g h i) (v8 j k l m n o p q)),[])
 |_=>ζ
def NG(o:(O->O->Z)->Z->O->Z)(a:(O->Z)->ξ)(b:(O->Z)->(O->Z)->O->Z):aG:=ext (ext (ext g0 134 (aW (nF a))) 195 (aW (ss b))) 193 (ea [ε] (T6 o))
abbrev zR:Ex->E O:=cj [4,9,10,11] [4] [2,3]
abbrev jY(m:O)(f:Θ)(t:ae)(n:O)(h:Θ):E AB:=[.row η m 9 (J f) t,.row ε n 9 (J h) 123]
abbrev vc(m n i:O):E AV:=[.own 1 n,.sl 0 9 0 0 m ζ,.v (ι m),.v (ι i)]
def as1(o:(O->O->Z)->Z->O->Z)(G:(O->Z)->ξ)(c:(O->Z)->(O->Z)->O->Z)(m:O)(f:Θ)(t:ae)(n:O)(h:Θ)(i:O):let e:=(0:Z);let y:=(ο (J h));let z:=AB.row η m 9 (J f) t;let D:=(↑n:Z);let s:=κ (D<(↑(n+1):Z));let u:=κ (aT D<n+1);let A:=[AV.v (gj ζ 0 0),vB η];let k:=(↑i:Z);let r:=(m:Z);let B:=AV.sl 0 9 0 0 m ζ;let l:=(0+aT k);let d:=(v8 (f l 1) (f l 2) (f l 3) (f l 4) (f l 5) (f l 6) (f l 7) (f l 8));let a:=(aT D);let C:=vI (aa .i64 (k+(1:Z)));let p:=(f l 0);let g:=(v8 (bif ω a n then h a 1 else e) (bif ω a n then h a 2 else e) (bif ω a n then h a 3 else e) (bif ω a n then h a 4 else e) (bif ω a n then h a 5 else e) (bif ω a n then h a 6 else e) (bif ω a n then h a 7 else e) (bif ω a n then h a 8 else e));let b:=(aT (o y p n));let j:=(v8 (h b 1) (h b 2) (h b 3) (h b 4) (h b 5) (h b 6) (h b 7) (h b 8));let v:=κ (aT (o y p n)<n);let w:=κ (e<=o y p n);let x:=κ (o y p n<D);a0 θ (NG o G c) 100 K (a5 0 Kk) (ar 0 57 ((zR .normal).zip (vc m n i))) (jY m f t n h) (cw 57 zR 1)
 =bif κ (k<r)then Ξ [κ (k<r),κ (0+aT k<m),Ψ n n,aF n (J h),κ (n<=274877906944)] (bif κ (o y p n<e)then Ξ [Δ n n,Δ (n+1) 549755813888,s,u,s,u,s,u] (bif !G (v8 (bif Ψ a a then c g d 0 else bif ω a n then h a 1 else e) (bif Ψ a a then c g d 1 else bif ω a n then h a 2 else e) (bif Ψ a a then c g d 2 else bif ω a n then h a 3 else e) (bif Ψ a a then c g d 3 else bif ω a n then h a 4 else e) (bif Ψ a a then c g d 4 else bif ω a n then h a 5 else e) (bif Ψ a a then c g d 5 else bif ω a n then h a 6 else e) (bif Ψ a a then c g d 6 else bif ω a n then h a 7 else e) (bif Ψ a a then c g d 7 else bif ω a n then h a 8 else e))then rO A [z]else am.out .normal [AV.own 1 (n+1),B,vI r,C] [z,AB.row ε (n+1) 9 (λq=>[ι (bif Ψ q a then bif ω a n then h a 0 else f l 0 else bif ω q n then h q 0 else f l 0),ι (bif Ψ q a then c g d 0 else bif ω q n then h q 1 else e),ι (bif Ψ q a then c g d 1 else bif ω q n then h q 2 else e),ι (bif Ψ q a then c g d 2 else bif ω q n then h q 3 else e),ι (bif Ψ q a then c g d 3 else bif ω q n then h q 4 else e),ι (bif Ψ q a then c g d 4 else bif ω q n then h q 5 else e),ι (bif Ψ q a then c g d 5 else bif ω q n then h q 6 else e),ι (bif Ψ q a then c g d 6 else bif ω q n then h q 7 else e),ι (bif Ψ q a then c g d 7 else bif ω q n then h q 8 else e)]) 123])else Ξ [w,x,v,w,x,v,w,x,v] (bif !G (v8 (bif Ψ b b then c j d 0 else h b 1) (bif Ψ b b then c j d 1 else h b 2) (bif Ψ b b then c j d 2 else h b 3) (bif Ψ b b then c j d 3 else h b 4) (bif Ψ b b then c j d 4 else h b 5) (bif Ψ b b then c j d 5 else h b 6) (bif Ψ b b then c j d 6 else h b 7) (bif Ψ b b then c j d 7 else h b 8))then rO A [z]else am.out .normal [AV.own 1 n,B,vI r,C] [z,AB.row ε n 9 (λq=>[ι (bif Ψ q b then h b 0 else h q 0),ι (bif Ψ q b then c j d 0 else h q 1),ι (bif Ψ q b then c j d 1 else h q 2),ι (bif Ψ q b then c j d 2 else h q 3),ι (bif Ψ q b then c j d 3 else h q 4),ι (bif Ψ q b then c j d 4 else h q 5),ι (bif Ψ q b then c j d 5 else h q 6),ι (bif Ψ q b then c j d 6 else h q 7),ι (bif Ψ q b then c j d 7 else h q 8)]) 123]))else am.out (Ex.exit 0) [AV.own 1 n] [z,AB.row ε n 9 (J h) 123]:=by intros;kernel_rfl
noncomputable abbrev OK(m:O)(f:Θ)(t:ae)(c:ξ)(n:O)(h:Θ):O->χ Sum:=bX 0 (bm 57 (zR .normal) 1 (vc m 0 0) (jY m f t 0 (Y [])) (λa=>cond c (a .normal (ar 0 57 [(4,.own 1 n)]) (jY m f t n h)) (a .ret (ar 0 57 [(2,.v (.slice ζ 0 0)),(3,.v (.bool η))]) [.row η m 9 (J f) t])))
def TZ(a:E Wh->E Wh):E AV->E AB->χ HR
 |[.own 0 m,.fn b []],[.row ε n 9 g t]=>γ {val:=.sl 0 9 0 0 (a (V (ο g) m)).length ζ,out:=[.row ε m 9 (J (Y (a (V (ο g) m)))) t],aw:=[Ψ b 197,Ψ n m,aF m g,κ (m<=2^38)]}
 |_,_=>ζ
def qD(a:E Wh->ξ):E SA->χ FR
 |[.row m g]=>γ {val:=.v (.bool (a (V (ο g) m))),aw:=[aF m g,κ (m<=2^39)]}
 |_=>ζ
def H6(c a:E Wh->E Wh)(b:E Wh->ξ):aG:=ext (ext (ext g0 112 (ai bF (qD b))) 196 (ea [] (TZ c))) 198 (ea [] (Lv a))
def axK(k b:E Wh->E Wh)(d:E Wh->ξ)(m:O)(f:Θ)(t:ae)(c:ξ)(n:O)(h:Θ):let e:=(k (V (ο (J h)) n));let a:=(ce e);let g:=AB.row η m 9 (J f) t;let l:=[AV.af [AV.v (gj ζ 0 0),vB η]];let j:=(↑a:Z);let o:=(aT (j-(0:Z)));let i:=(Y e);let p:=κ (j<=j);ad θ (H6 k b d) (OK m f t c n h) 100 Kk [.sl 0 9 0 0 m ζ] [.row η m 9 (J f) t] (ag 1)
 =Ξ [cy ([AV.own 1 0,AV.sl 0 9 0 0 m ζ,vI (m:Z),vI 0]=vc m 0 0/\Φ [g,AB.row ε 0 9 (λ_=>[]) 123] (jY m f t 0 (Y [])))] (bif c then Ξ [Ψ n n,aF n (J h),κ (n<=274877906944),Δ (0+ce e) n,aF a λq=>J i (0+q),κ (ce e<=549755813888)] (bif !d (V (ο λq=>J i (0+q)) a)then rO l [g]else Ξ [Δ a n,aF n (J i),κ (ce e<=12),p,p] (rO [AV.af [AV.sl 1 9 0 0 o (γ o),vB ε]] [g,AB.row ε a 9 (J (Y (b (V (ο (J i)) a)))) 123]))else rO l [g]):=by intros;kernel_rfl
def afC(h:Θ)(x:Z):lz (ο (J h)) x=lz h x:=rfl
def aeZ:T6 (λf x m=>fF (lz f x) m)=KN:=by
 funext l H
 rfl
def VQ:ss rx=Hg:=by
 funext l
 rfl
def alk:aK θ (NG (λf x m=>fF (lz f x) m) (λv=>bt (bq v)) rx):=by unfold NG;rw[aeZ,VQ,qP];exact az (az (az ba D6) PJ) apK
def UB(n:O):ω n n=η:=by
 cases a:ω n n with
 |false=>rfl
 |true=>rw[bM]at a;omega
def B6{a b:O}(h:a<b):ω a b=ε:=by rw[bM];exact h
def alQ(acc:E Wh)(x:Wh):(eO acc x).length<=acc.length+1:=by
 induction acc with
 |nil=>simp[eO]
 |cons y l a=>
  unfold eO;split
  ·simp
  ·simp only[bZ]
   omega
def Qq:∀{xs acc A:E Wh},runT eO acc xs=γ A->A.length<=acc.length+xs.length
 |[],acc,A,h=>by simp only[runT,aC]at h;subst h;simp
 |x::xs,acc,A,h=>by
  simp only[runT]at h;split at h
  ·have:=Qq h
   have a:=alQ acc x;simp only[bZ];omega
  ·cases h
def nN(L:E Wh):Prop:=∀w∈L,nC w.r
def je(f:Θ)(i:O):E Wh:=(runT eO [] (V f i)).getD []
def yR(h:runT eO [] (V z i)=γ L):je z i=L:=by rw[je,h];rfl
def aob{b:O->Z}(a:∀k,k<8->b k=(gn iN (bh h).r).f k)(q:O)(g:q<L.length+1):[ι (bif Ψ q L.length then h 0 else bif ω q L.length then Y L q 0 else h 0),ι (bif Ψ q L.length then b 0 else bif ω q L.length then Y L q 1 else 0),ι (bif Ψ q L.length then b 1 else bif ω q L.length then Y L q 2 else 0),ι (bif Ψ q L.length then b 2 else bif ω q L.length then Y L q 3 else 0),ι (bif Ψ q L.length then b 3 else bif ω q L.length then Y L q 4 else 0),ι (bif Ψ q L.length then b 4 else bif ω q L.length then Y L q 5 else 0),ι (bif Ψ q L.length then b 5 else bif ω q L.length then Y L q 6 else 0),ι (bif Ψ q L.length then b 6 else bif ω q L.length then Y L q 7 else 0),ι (bif Ψ q L.length then b 7 else bif ω q L.length then Y L q 8 else 0)]=J (Y (L++[⟨h 0,gn iN (bh h).r⟩])) q:=by
 by_cases e:q=L.length
 ·subst e
  have d:Y (L++[⟨h 0,gn iN (bh h).r⟩]) L.length=eM ⟨h 0,gn iN (bh h).r⟩:=by rw[tu (by simp)];simp
  simp only[show Ψ L.length L.length=ε from mG _,a6,a 0 (by omega),a 1 (by omega),a 2 (by omega),a 3 (by omega),a 4 (by omega),a 5 (by omega),a 6 (by omega),a 7 (by omega),J,d];rfl
 ·have c:q<L.length:=by omega
  have d:Y (L++[⟨h 0,gn iN (bh h).r⟩]) q=Y L q:=by
   funext k
   simp only[Y,kN c]
  simp only[B2 e,B6 c,a6,be,J,d]
def aqY{r:Cy}(c:i<L.length)(hs:L[i].s=A)(a:∀k,k<8->h k=r.f k)(q:O):[ι (bif Ψ q i then Y L i 0 else Y L q 0),ι (bif Ψ q i then h 0 else Y L q 1),ι (bif Ψ q i then h 1 else Y L q 2),ι (bif Ψ q i then h 2 else Y L q 3),ι (bif Ψ q i then h 3 else Y L q 4),ι (bif Ψ q i then h 4 else Y L q 5),ι (bif Ψ q i then h 5 else Y L q 6),ι (bif Ψ q i then h 6 else Y L q 7),ι (bif Ψ q i then h 7 else Y L q 8)]=J (Y (L.set i ⟨A,r⟩)) q:=by
 by_cases e:q=i
 ·subst e
  have d:Y L q 0=A:=by rw[tu c,<-hs];rfl
  simp only[d,show Ψ q q=ε from mG _,a6,a 0 (by omega),a 1 (by omega),a 2 (by omega),a 3 (by omega),a 4 (by omega),a 5 (by omega),a 6 (by omega),a 7 (by omega),J,Rx L q _ q c,aU];rfl
 ·simp only[B2 e,be,J,Rx L i _ q c,bI e]
def ave(m:O)(f:Θ)(t:ae)(X:m<=2^38)(B:nN (V f m)):ck θ 1 (.block 0 (.loop (a5 0 Kk))) (bm 57 (zR .normal) 1 (vc m 0 0) (jY m f t 0 (Y [])) (λa=>cond (runT eO [] (V f m)).isSome (a .normal (ar 0 57 [(4,.own 1 (je f m).length)]) (jY m f t (je f m).length (Y (je f m)))) (a .ret (ar 0 57 [(2,.v (.slice ζ 0 0)),(3,.v (.bool η))]) [.row η m 9 (J f) t]))):=by
 refine dQ alk (n:=100) (m:=1) (lv:=zR) (λi=>vc m (je f i).length i) (λi=>jY m f t (je f i).length (Y (je f i))) (λi=>(runT eO [] (V f i)).isSome=ε) m (λ_=>K) (du rfl rfl rfl) (aQ _) rfl λa Q s i L M=>⟨cN _ _ _,?_⟩
 obtain⟨A,z⟩:=tG.1 L;have H:=yR z;have hl:A.length<=i:=by have:=Qq z;rw[cR]at this;simpa using this
 have c:runT eO [] (V f (i+1))=if bt (ed A (bh (f i)))=ε then γ (eO A (bh (f i)))else ζ:=by rw[iQ,Qt,z]
 rw[as1,H];refine aD (λu=>?_) λu=>?_
 ·have u:=aV u
  have g:i<m:=by omega
  have N:nC (bh (f i)).r:=B _ (kj (o4 f g));have d:∀(r:Cy),ed A (bh (f i))=r->bt r=η->aE (.out .ret [.v (.slice ζ 0 0),.v (.bool η)] [.row η m 9 (J f) t]) (vW 57 0 zR (λi=>vc m (je f i).length i) (λi=>jY m f t (je f i).length (Y (je f i))) (λP=>P=i+1/\i<m/\(runT eO [] (V f (i+1))).isSome=ε) a Q):=λr R S=>by
   rw[R,S]at c;obtain⟨ys,e⟩:=OX f (show i+1<=m by omega);have T:runT eO [] (V f m)=ζ:=by rw[e];exact Qs _ _ _ _ (by simpa using c)
   rw[T]at s;exact F ⟨_,Φ.refl _,s⟩
  simp only[cV,bH,afC];rw[bz (x:=(i:Z)+1)];refine aq (by simp only[Ω,ax,aj,aL,dn,bv,kr];omega) ?_;rcases Ht (lz (Y A) (f i 0)) A.length with⟨C,D⟩|⟨v,h,C,U,q4,D⟩
  ·have b:∀x∈A,x.s≠ (bh (f i)).s:=by intro x W;obtain⟨j,w,rfl⟩:=adY.1 W;have:=wZ (bad:=lz (Y A) (f i 0)) C w;simp only[lz,tu w,cq]at this;exact this
   have y:ed A (bh (f i))=gn iN (bh (f i)).r:=by rw[au9 b,Vp N]
   have G:=alR b;rw[D];refine cv rfl ?_;simp only[kr,UB,a6,be];refine c_ (aD (λq=>?_) λq=>?_)
   ·refine d _ y ?_
    have l:(!(bt (gn iN (bh (f i)).r)))=ε:=q;simpa using l
   ·have o:(!(bt (gn iN (bh (f i)).r)))=η:=q
    have l:bt (gn iN (bh (f i)).r)=ε:=by simpa using o
    rw[y,aU l,G]at c;refine F ⟨i+1,⟨rfl,g,by rw[c];rfl⟩,?_,?_⟩
    ·show _=vc m (je f (i+1)).length (i+1)
     rw[yR c,bN];rfl
    ·show Φ _ (jY m f t (je f (i+1)).length (Y (je f (i+1))))
     rw[yR c,bN];refine .cons (ab.refl _) (.cons (ab.row λq I=>?_) .nil);exact aob (λk s=>by rcases(by omega:k=0\/k=1\/k=2\/k=3\/k=4\/k=5\/k=6\/k=7)with rfl|rfl|rfl|rfl|rfl|rfl|rfl|rfl<;>rfl) q I
  ·have p:A[v].s=(bh (f i)).s:=by have:=U;simp only[lz,tu h,fm]at this;exact this
   have b:∀j (w:j<v),(A[j]'(by omega)).s≠ (bh (f i)).s:=by intro j w;have:=wZ (bad:=lz (Y A) (f i 0)) C w;simp only[lz,tu (show j<A.length by omega),cq]at this;exact this
   have y:=abT h p b;have G:=X_ h p b;rw[D];refine bA (by simp) ?_;simp only[cV,kr,a6];refine c_ (aD (λq=>?_) λq=>?_)
   ·refine d _ y ?_
    simp only[tu h]at q;have l:(!(bt (gn A[v].r (bh (f i)).r)))=ε:=q;simpa using l
   ·simp only[tu h]at q
    have o:(!(bt (gn A[v].r (bh (f i)).r)))=η:=q;have l:bt (gn A[v].r (bh (f i)).r)=ε:=by simpa using o
    rw[y,aU l,G]at c;refine F ⟨i+1,⟨rfl,g,by rw[c];rfl⟩,?_,?_⟩
    ·show _=vc m (je f (i+1)).length (i+1)
     rw[yR c,List.length_set];rfl
    ·show Φ _ (jY m f t (je f (i+1)).length (Y (je f (i+1))))
     rw[yR c,List.length_set];refine .cons (ab.refl _) (.cons (ab.row λq I=>?_) .nil);refine aqY h p (λk s=>?_) q;rw[tu h];rcases(by omega:k=0\/k=1\/k=2\/k=3\/k=4\/k=5\/k=6\/k=7)with rfl|rfl|rfl|rfl|rfl|rfl|rfl|rfl<;>rfl
 ·have u:=cu u
  have:i=m:=by omega
  subst this;refine F ⟨_,Φ.refl _,?_⟩;rw[aU rfl];rw[z,H]at s;exact s
def aeX:TZ bQ=KK:=by
 funext l H
 rfl
def t_:qD aO=vN:=by
 funext l
 rfl
def Xb:aK θ (H6 bQ l0 aO):=by unfold H6;rw[aeX,t_];exact az (az (az ba D7) apo) aqt
noncomputable def fP(L:E Wh):ξ:=cy (nN L)
def bC(L:E Wh):ξ:=(iF L).isSome
abbrev li(T:E Wh):AV:=.af [.sl 0 9 0 0 T.length (γ T.length),.v (.bool ε)]
abbrev eP:AV:=.af [.v (.slice ζ 0 0),.v (.bool η)]
abbrev h_(T:E Wh):E AB:=[.row ε T.length 9 (J (Y T)) 123]
noncomputable def KR:E SA->χ FR
 |[.row m g]=>γ {val:=li (bo (V (ο g) m)),new:=h_ (bo (V (ο g) m)),aw:=[aF m g,κ (m<=2^38),fP (V (ο g) m),bC (V (ο g) m)]}
 |_=>ζ
noncomputable def KQ:E SA->χ FR
 |[.row m g]=>γ {val:=eP,aw:=[aF m g,κ (m<=2^38),fP (V (ο g) m),!bC (V (ο g) m)]}
 |_=>ζ
def hZ(L:E Wh)(n:O)(h:L.length=n):V (ο (J (Y L))) n=L:=by subst h;exact uH L
def YS(L:E Wh)(n:O)(h:L.length=n):V (ο λq=>J (Y L) (0+q)) n=L:=by
 have:(λq=>J (Y L) (0+q))=J (Y L):=by funext q;rw[bH]
 rw[this];exact hZ L n h
def at7(L:E Wh):(l0 L).length=L.length:=(QJ L).length_eq
def acd(m:O)(f:Θ)(t:ae)(n:m<=2^38)(e:nN (V f m))(Q:Ex->E AV->E AB->Prop)(k:bC (V f m)=ε->∀T,bo (V f m)=T->Q .ret [.af [.sl 1 9 0 0 T.length (γ T.length),.v (.bool ε)]] [.row η m 9 (J f) t,.row ε T.length 9 (J (Y T)) 123])(g:bC (V f m)=η->Q .ret [eP] [.row η m 9 (J f) t]):aE (ad θ (H6 bQ l0 aO) (OK m f t (runT eO [] (V f m)).isSome (je f m).length (Y (je f m))) 100 Kk [.sl 0 9 0 0 m ζ] [.row η m 9 (J f) t] (ag 1)) Q:=by
 have a:=avL e;rw[axK];refine aq (by rw[Ω];exact⟨cG ⟨rfl,.cons (ab.refl _) (.cons (ab.row λj o=>by omega) .nil)⟩,rfl⟩) ?_;refine aD (λq=>?_) λq=>?_
 ·obtain⟨A,d⟩:=tG.1 q
  have l:=yR d;have p:A.length<=m:=by have:=Qq d;rw[cR]at this;simpa using this
  rw[d]at a;simp only at a;have r:(bQ A).length<=A.length:=azi _ _;rw[l,hZ A _ rfl,YS (bQ A) _ rfl,hZ (bQ A) _ rfl];refine aq (by simp only[Ω,ax,aj,aL,bl,dn,bv,kr,bH];omega) (aD (λb=>?_) λb=>?_)
  ·have b:gp (bQ A)=η:=by have c:(!gp (bQ A))=ε:=b;simpa using c
   rw[bI (by rw[b];simp)]at a;exact F (g (by rw[bC,<-a];rfl))
  ·have b:gp (bQ A)=ε:=by have c:(!gp (bQ A))=η:=b;simpa using c
   rw[aU b]at a;have i:(bQ A).length<=12:=by have:=b;rw[gp,aP]at this;exact aV this.1
   have eT:bo (V f m)=l0 (bQ A):=by rw[bo,<-a];rfl
   have:=k (by rw[bC,<-a];rfl) _ eT;rw[at7]at this;refine fu ?_;simp only[adB,cV];exact F this
 ·have d:runT eO [] (V f m)=ζ:=by
   cases h:runT eO [] (V f m)with
   |none=>rfl
   |some A=>rw[h]at q;cases q
  rw[d]at a;exact F (g (by rw[bC,<-a];rfl))
def acb(m:O)(f:Θ)(t:ae)(b:m<=2^38)(a:nN (V f m)):∀c,(Kk).body=γ c->dk θ 1 (OK m f t (runT eO [] (V f m)).isSome (je f m).length (Y (je f m))) c:=da (ave m f t b a)
def Z9:ak θ 113 (ai bF KR):=by
 refine ca Xb func113 rfl λi p b d=>?_
 unfold KR at b;split at b
 ·rename_i m g
  cases b;simp only[Ω]at d;obtain⟨e,k,l,f,_⟩:=d;have h:=aV k;have a:=IL l;refine⟨[.row η m 9 (J (ο g)) 123],_,100,.cons (ab.row λj c=>a7 e j c) .nil,acb m (ο g) 123 h a,acd m (ο g) 123 h a _ (λ_ T n=>?_) λo=>by rw[o]at f;cases f⟩;subst n;exact⟨_,rfl,rfl,.cons (ab.row λj c=>(a7 e j c).symm) (Φ.refl _)⟩
 ·cases b
def Z8:ak θ 113 (ai bF KQ):=by
 refine ca Xb func113 rfl λi o b d=>?_
 unfold KQ at b;split at b
 ·rename_i m g
  cases b;simp only[Ω]at d;obtain⟨e,k,l,f,_⟩:=d;have h:=aV k;have a:=IL l;refine⟨[.row η m 9 (J (ο g)) 123],_,100,.cons (ab.row λj c=>a7 e j c) .nil,acb m (ο g) 123 h a,acd m (ο g) 123 h a _ (λn=>by rw[n]at f;cases f) λ_=>?_⟩;exact⟨_,rfl,rfl,.cons (ab.row λj c=>(a7 e j c).symm) .nil⟩
 ·cases b
def VY(a:(O->Z)->O->Z):E τ->χ (τ×E ξ)
 |[.agg ⟨[.int .i64 b,.int .i64 c,.int .i64 d,.int .i64 e,.int .i64 f,.int .i64 g,.int .i64 h,.int .i64 i]⟩]=>γ (dA (a (v8 b c d e f g h i)),[])
 |_=>ζ
def CU(a:(O->Z)->O->Z):aG:=ext g0 270 (aW (VY a))
abbrev fe(a:ao):E AV:=[.v (ι (a 0)),.v (ι (a 1)),.v (ι (a 2)),.v (ι (a 3)),.v (ι (a 4)),.v (ι (a 5)),.v (ι (a 6)),.v (ι (a 7))]
abbrev DK:Ex->E O:=cj [1,2,4,5] [2,4] [4]
abbrev wI(a:ao):E AB:=[.cells (fe a) 88,.cells (fe λ_=>0) 88]
abbrev EQ(n:Z)(i:O):E AV:=[.v (ι n),.ptr 0 0 0 0,.ptr 1 0 0 0,.v (ι i)]
def as3(b:(O->Z)->O->Z)(a:ao)(n:Z)(i:O):let c:=AB.cells [vI 0,vI 0,vI 0,vI 0,vI 0,vI 0,vI 0,vI 0] 88;a0 θ (CU b) 100 K (a5 0 S1) (ar 0 14 ((DK .normal).zip (EQ n i))) (wI a) (cw 14 DK 0)
 =bif κ ((↑i:Z)<n)then am.out .normal [vI n,AV.ptr 0 0 0 0,AV.ptr 1 0 0 0,vI (aa .i64 ((↑i:Z)+(1:Z)))] [AB.cells [vI (b (w8 a) 0),vI (b (w8 a) 1),vI (b (w8 a) 2),vI (b (w8 a) 3),vI (b (w8 a) 4),vI (b (w8 a) 5),vI (b (w8 a) 6),vI (b (w8 a) 7)] 88,c]else am.out (Ex.exit 0) [AV.ptr 0 0 0 0,AV.ptr 1 0 0 0] [AB.cells [vI (a 0),vI (a 1),vI (a 2),vI (a 3),vI (a 4),vI (a 5),vI (a 6),vI (a 7)] 88,c]:=by intros;kernel_rfl
noncomputable abbrev OM(a:ao)(n:Z)(b:ao):O->χ Sum:=bX 0 (bm 14 (DK .normal) 0 (EQ n 0) (wI a) (λc=>c .normal (ar 0 14 [(2,.ptr 0 0 0 0),(4,.ptr 1 0 0 0)]) (wI b)))
def axS(c:(O->Z)->O->Z)(a:ao)(n:Z)(b:ao):ad θ (CU c) (OM a n b) 100 S1 [.v (dA a),.v (ι n)] [] (ag 0)=Ξ [cy ([vI n,AV.ptr 0 0 0 0,AV.ptr 1 0 0 0,vI 0]=EQ n 0/\Φ [AB.cells [vI (a 0),vI (a 1),vI (a 2),vI (a 3),vI (a 4),vI (a 5),vI (a 6),vI (a 7)] 88,AB.cells [vI 0,vI 0,vI 0,vI 0,vI 0,vI 0,vI 0,vI 0] 88] (wI a))] (rO [AV.agg [vI (b 0),vI (b 1),vI (b 2),vI (b 3),vI (b 4),vI (b 5),vI (b 6),vI (b 7)]] []):=by kernel_rfl
def awL(b:(O->Z)->ξ)(a:ao):ad θ (ext g0 167 (aW (nF b))) K 100 f165 [.v (dA a)] [] (ag 0)=bif !b (w8 a)then rO [AV.af [AV.agg [vI 0,vI 0,vI 0,vI 0,vI 0,vI 0,vI 0,vI 0],vB η]] []else rO [AV.af [AV.agg [vI (a 0),vI (a 1),vI (a 2),vI (a 3),vI (a 4),vI (a 5),vI (a 6),vI (a 7)],vB ε]] []:=by kernel_rfl
def ajZ:VY fT=G_:=by
 funext l
 rfl
def W6:aK θ (CU fT):=by unfold CU;rw[ajZ];exact az ba ZT
def avg(a:ao)(n:Z)(f:n<=2^40):ck θ 0 (.block 0 (.loop (a5 0 S1))) (bm 14 (DK .normal) 0 (EQ n 0) (wI a) (λb=>b .normal (ar 0 14 [(2,.ptr 0 0 0 0),(4,.ptr 1 0 0 0)]) (wI (fX a n.toNat)))):=by
 refine dQ W6 (n:=100) (m:=0) (lv:=DK) (λi=>EQ n i) (λi=>wI (fX a i)) (λ_=>True) n.toNat (λ_=>K) (du rfl rfl rfl) (aQ _) trivial λb Q d i h e=>⟨cN _ _ _,?_⟩
 rw[as3];refine aD (λc=>?_) λc=>?_
 ·have c:=aV c
  rw[bz (x:=(i:Z)+1)];exact F ⟨i+1,⟨rfl,by omega,trivial⟩,rfl,Φ.refl _⟩
 ·have c:=cu c
  have:i=n.toNat:=by omega
  subst this;refine F ⟨_,Φ.refl _,?_⟩;rw[aU rfl];exact d
def KT:E SA->χ FR
 |[.v (.agg ⟨[.int .i64 a,.int .i64 b,.int .i64 c,.int .i64 d,.int .i64 e,.int .i64 f,.int .i64 g,.int .i64 h]⟩),.v (.int .i64 n)]=>γ {val:=.agg (fe (fX (v8 a b c d e f g h) n.toNat)),aw:=[κ (n<=2^40)]}
 |_=>ζ
def PM:ak θ 234 (ai [.val,.val] KT):=by
 refine ca W6 func234 rfl λk m i j=>?_
 unfold KT at i;split at i
 ·rename_i a b c d e f g h n
  cases i;simp only[Ω]at j;have l:=aV j.1;refine⟨[],OM (v8 a b c d e f g h) n (fX (v8 a b c d e f g h) n.toNat),100,.nil,da (avg (v8 a b c d e f g h) n l),?_⟩;show aE (ad θ (CU fT) (OM (v8 a b c d e f g h) n (fX (v8 a b c d e f g h) n.toNat)) 100 S1 [.v (dA (v8 a b c d e f g h)),.v (ι n)] [] (ag 0)) _
  rw[axS];exact aq (by rw[Ω];exact⟨cG ⟨rfl,Φ.refl _⟩,rfl⟩) (F ⟨_,rfl,rfl,.nil⟩)
 ·cases i
def uq(a:ao):O->Z:=bif bt (bq a)then a else λ_=>0
def KO:E SA->χ FR
 |[.v (.agg ⟨[.int .i64 a,.int .i64 b,.int .i64 c,.int .i64 d,.int .i64 e,.int .i64 f,.int .i64 g,.int .i64 h]⟩)]=>γ {val:=.af [.agg (fe (uq (v8 a b c d e f g h))),.v (.bool (bt (bq (v8 a b c d e f g h))))]}
 |_=>ζ
def apS:ak θ 165 (ai [.val] KO):=by
 have k:aK θ (ext g0 167 (aW (nF λv=>bt (bq v)))):=by rw[qP];exact az ba D5
 refine ca k func165 rfl λl m i n=>?_
 unfold KO at i;split at i
 ·rename_i a b c d e f g h
  cases i;refine⟨[],K,100,.nil,de _,?_⟩;show aE (ad θ (ext g0 167 (aW (nF λv=>bt (bq v)))) K 100 f165 [.v (dA (v8 a b c d e f g h))] [] (ag 0)) _
  rw[awL];refine aD (λq=>?_) λq=>?_
  ·have q:bt (bq (v8 a b c d e f g h))=η:=by have j:(!bt (bq (v8 a b c d e f g h)))=ε:=q;simpa using j
   refine F ⟨_,rfl,?_,.nil⟩;rw[uq,q];rfl
  ·have q:bt (bq (v8 a b c d e f g h))=ε:=by have j:(!bt (bq (v8 a b c d e f g h)))=η:=q;simpa using j
   refine F ⟨_,rfl,?_,.nil⟩;rw[uq,q];rfl
 ·cases i
def aa3(t m:O):Z:=bif Ψ m t then 1 else 0
def atk(n:Z):ad θ g0 K 100 f207 [.v (ι n)] [] dR=Ξ [κ (0<=n),κ (n<24),κ (n.toNat<24)] (.out .ret [.agg (fe (lc (aa3 n.toNat) 24 16))] []):=by kernel_rfl
def MY:E τ->χ (τ×E ξ)
 |[.int .i64 n]=>γ (dA (b8 n.toNat),[κ (0<=n),κ (n<=(23:O))])
 |_=>ζ
def atl:∀t,t<24->∀k,k<8->lc (aa3 t) 24 16 k=b8 t k:=by decide+kernel
def aqp:ak θ 207 (aW MY):=by
 refine et (n:=100) ba func207 rfl λh x i a d=>?_
 unfold MY at a;split at a
 ·rename_i n
  simp only[aC,cI]at a;obtain⟨rfl,rfl⟩:=a;obtain⟨b,c⟩:=D2 d;have b:=aV b;have c:=aV c;show Good (ad θ g0 K 100 f207 [.v (ι n)] [] dR) _
  have e:κ (0<=n)=ε:=di b;have f:κ (n<24)=ε:=dc;have g:κ (n.toNat<24)=ε:=dc;rw[atk,e,f,g,<-y8 (atl n.toNat (by omega))];exact one rfl
 ·cases a
def sH(a:ao):ξ:=qi a (-9223372036854775808) 9223372036854775807
def H7(md:Z->Z)(rt:Z->O->Z)(mul:(O->Z)->(O->Z)->O->Z):aG:=ext (ext (ext g0 208 (aW (λ|[.int .i64 n]=>γ (ι (md n),[aH n (-9223372036854775808) 9223372036854775807])|_=>ζ))) 207 (aW (λ|[.int .i64 n]=>γ (dA (rt n),[κ (0<=n),κ (n<=(23:O))])|_=>ζ))) 203 (aW (ss mul))
def axT(md:Z->Z)(rt:Z->O->Z)(mul:(O->Z)->(O->Z)->O->Z)(a:ao)(n:Z):let b:=(w8 (rt (md n)));ad θ (H7 md rt mul) K 100 f120 [.v (dA a),.v (ι n)] [] (ag 0)
 =Ξ [aH n (-9223372036854775808:Z) (9223372036854775807:Z),κ ((0:Z)<=md n),κ (md n<=(23:Z))] (rO [AV.agg [vI (mul (w8 a) b 0),vI (mul (w8 a) b 1),vI (mul (w8 a) b 2),vI (mul (w8 a) b 3),vI (mul (w8 a) b 4),vI (mul (w8 a) b 5),vI (mul (w8 a) b 6),vI (mul (w8 a) b 7)]] []):=by intros;kernel_rfl
def aln:aK θ (H7 (λn=>n%24) (λn=>b8 n.toNat) ez):=by
 have a:(λ|[.int .i64 n]=>γ (ι (n%24),[aH n (-9223372036854775808) 9223372036854775807])|_=>ζ)=Hj:=by funext l;rfl
 have b:(λ|[.int .i64 n]=>γ (dA (b8 n.toNat),[κ (0<=n),κ (n<=(23:O))])|_=>ζ)=MY:=by funext l;rfl
 have c:ss ez=CE:=by funext l;rfl
 unfold H7;rw[a,b,c];exact az (az (az ba aaa) aqp) PL
def F_(i:(O->Z)->Z->O->Z):E SA->χ FR
 |[.v (.agg ⟨[.int .i64 a,.int .i64 b,.int .i64 c,.int .i64 d,.int .i64 e,.int .i64 f,.int .i64 g,.int .i64 h]⟩),.v (.int .i64 n)]=>γ {val:=.agg (fe (i (v8 a b c d e f g h) n)),aw:=[sH (v8 a b c d e f g h),aH n (-9223372036854775808) 9223372036854775807]}
 |_=>ζ
abbrev xM:(O->Z)->Z->O->Z:=λa n=>fX a (n%24).toNat
def Z':ak θ 120 (ai [.val,.val] (F_ xM)):=by
 refine ca aln func120 rfl λq w b f=>?_
 unfold F_ at b;split at b
 ·rename_i g h i j l m o p n
  cases b;simp only[Ω]at f;obtain⟨r,s,_⟩:=f;generalize t:v8 g h i j l m o p=a at*;have c:=xy.1 r;refine⟨[],K,100,.nil,de _,?_⟩;have d:ir 0 [Md.val,Md.val] [SA.v (.agg ⟨[.int .i64 g,.int .i64 h,.int .i64 i,.int .i64 j,.int .i64 l,.int .i64 m,.int .i64 o,.int .i64 p]⟩),SA.v (ι n)]=[.v (dA a),.v (ι n)]:=by rw[<-t];rfl
  rw[d];show aE (ad θ (H7 (λn=>n%24) (λn=>b8 n.toNat) ez) K 100 f120 [.v (dA a),.v (ι n)] [] (ag 0)) _
  rw[axT];have e:∀k,k<8->ez (w8 a) (w8 (b8 (n%24).toNat)) k=fX a (n%24).toNat k:=by intro k u;have v:ez (w8 a) (w8 (b8 (n%24).toNat)) k=ez a (b8 (n%24).toNat) k:=rfl;rw[v,Zd c _ k u]
  simp only[e 0 (by omega),e 1 (by omega),e 2 (by omega),e 3 (by omega),e 4 (by omega),e 5 (by omega),e 6 (by omega),e 7 (by omega)];exact aq (by simp only[Ω,ax,aj,aL];exact⟨s,by omega,by omega⟩) (F ⟨_,rfl,rfl,.nil⟩)
 ·cases b
def G2(a:(O->Z)->O->Z):E τ->χ (τ×E ξ)
 |[.agg ⟨[.int .i64 b,.int .i64 c,.int .i64 d,.int .i64 e,.int .i64 f,.int .i64 g,.int .i64 h,.int .i64 i]⟩]=>γ (dA (a (v8 b c d e f g h i)),[])
 |_=>ζ
def HB(a:(O->Z)->O->Z)(b:(O->Z)->Z->O->Z):aG:=ext (ext g0 127 (aW (G2 a))) 120 (ai [.val,.val] (F_ b))
abbrev rc:Ex->E O:=cj [1,6,15,16,17] [6] [4,5]
def Uc(c:E Wh->E Wh)(a b:E Wh->ξ):E SA->χ FR
 |[.row m g]=>γ {val:=li (c (V (ο g) m)),new:=h_ (c (V (ο g) m)),aw:=[aF m g,κ (m<=2^38),b (V (ο g) m),a (V (ο g) m)]}
 |_=>ζ
def Ub(a b:E Wh->ξ):E SA->χ FR
 |[.row m g]=>γ {val:=eP,aw:=[aF m g,κ (m<=2^38),b (V (ο g) m),!a (V (ο g) m)]}
 |_=>ζ
def sx(a:E Wh->ξ)(d:E Wh->E Wh)(b c:E Wh->ξ):aG:=ext (ext g0 112 (ai bF (qD a))) 113 (ai bF (Uc d b c))
def mg(a:E Wh->ξ)(b c:E Wh->ξ):aG:=ext (ext g0 112 (ai bF (qD a))) 113 (ai bF (Ub b c))
def lE(cap:ξ):E AV:=bif cap then[.ptr 1 0 0 0]else[]
def iO(cap:ξ)(x:Z):E AB:=bif cap then[.cells [.v (ι x)] 3]else[]
abbrev qV(a:E AB)(m:O)(f:Θ)(t:ae)(n:O)(h:Θ):E AB:=.row η m 9 (J f) t::(a++[.row ε n 9 (J h) 123])
abbrev AF(k:dm)(cs:E AV)(a:E AB)(m n i:O):E AV:=[.fn k cs,.own (a.length+1) n,.sl 0 9 0 0 m ζ,.v (ι m),.v (ι i)]
noncomputable abbrev zL(k:dm)(cs:E AV)(b:E AB)(m:O)(f:Θ)(t:ae)(n:O)(h:Θ):O->χ Sum:=bX 0 (bm 32 (rc .normal) (b.length+1) (AF k cs b m 0 0) (qV b m f t 0 (Y [])) (λa=>a .normal (ar 0 32 [(6,.own (b.length+1) n)]) (qV b m f t n h)))
structure aeL (cs:E AV) (eb:E AB):Prop where
 y:∀(okd:E Wh->ξ)(ti:E Wh->E Wh)(okt q5:E Wh->ξ)(m:O)(f:Θ)(t:ae)(n:O)(h:Θ)(k:dm),ad θ (sx okd ti okt q5) (zL k cs eb m f t n h) 100 ls [.sl 0 9 0 0 m ζ,.fn k cs] (.row η m 9 (J f) t::eb) (ag (eb.length+1))
  =Ξ [Δ (0+m) m,aF m λq=>J f (0+q),κ (m<=549755813888)] (bif !okd (V (ο λq=>J f (0+q)) m)then .out .ret [eP] (.row η m 9 (J f) t::eb)else Ξ [κ ((m:Z)<=1099511627776),cy ([AV.fn k cs,.own (eb.length+1) 0,.sl 0 9 0 0 m ζ,.v (ι m),.v (ι 0)]=AF k cs eb m 0 0/\Φ (.row η m 9 (J f) t::(eb++[.row ε 0 9 (λ_=>[ι 0,ι 0,ι 0,ι 0,ι 0,ι 0,ι 0,ι 0,ι 0]) 123])) (qV eb m f t 0 (Y []))),Δ n n,aF n (J h),κ (n<=274877906944),q5 (V (ο (J h)) n),okt (V (ο (J h)) n)] (.out .ret [.af [.sl (eb.length+1) 9 0 0 (ti (V (ο (J h)) n)).length (γ (ti (V (ο (J h)) n)).length),.v (.bool ε)]] (.row η m 9 (J f) t::(eb++h_ (ti (V (ο (J h)) n))))))
 n:∀(okd okt q5:E Wh->ξ)(m:O)(f:Θ)(t:ae)(n:O)(h:Θ)(k:dm),ad θ (mg okd okt q5) (zL k cs eb m f t n h) 100 ls [.sl 0 9 0 0 m ζ,.fn k cs] (.row η m 9 (J f) t::eb) (ag (eb.length+1))
  =Ξ [Δ (0+m) m,aF m λq=>J f (0+q),κ (m<=549755813888)] (bif !okd (V (ο λq=>J f (0+q)) m)then .out .ret [eP] (.row η m 9 (J f) t::eb)else Ξ [κ ((m:Z)<=1099511627776),cy ([AV.fn k cs,.own (eb.length+1) 0,.sl 0 9 0 0 m ζ,.v (ι m),.v (ι 0)]=AF k cs eb m 0 0/\Φ (.row η m 9 (J f) t::(eb++[.row ε 0 9 (λ_=>[ι 0,ι 0,ι 0,ι 0,ι 0,ι 0,ι 0,ι 0,ι 0]) 123])) (qV eb m f t 0 (Y []))),Δ n n,aF n (J h),κ (n<=274877906944),q5 (V (ο (J h)) n),!okt (V (ο (J h)) n)] (.out .ret [eP] (.row η m 9 (J f) t::eb)))
 e:∀(okd okt q5:E Wh->ξ)(m:O)(f:Θ)(t:ae)(k:dm),ad θ (mg okd okt q5) (bX 0 iv) 100 ls [.sl 0 9 0 0 m ζ,.fn k cs] (.row η m 9 (J f) t::eb) (ag (eb.length+1))
  =Ξ [Δ (0+m) m,aF m λq=>J f (0+q),κ (m<=549755813888)] (bif !okd (V (ο λq=>J f (0+q)) m)then .out .ret [eP] (.row η m 9 (J f) t::eb)else Ξ [κ ((m:Z)<=1099511627776)] .err)
def QE:∀(cap:ξ)(x:Z),aeL (lE cap) (iO cap x)
 |false,_=>⟨by intros;kernel_rfl,by intros;kernel_rfl,by intros;kernel_rfl⟩
 |true,_=>⟨by intros;kernel_rfl,by intros;kernel_rfl,by intros;kernel_rfl⟩
structure tW (k:dm) (cs:E AV) (eb:E AB) (ch:Wh->Wh) (ob:(O->Z)->E ξ):Prop where
 rnd:∀(m:O)(f:Θ)(t:ae)(n:O)(h:Θ)(i:O),a0 θ (HB jo xM) 100 K (a5 0 ls) (ar 0 32 ((rc .normal).zip (AF k cs eb m n i))) (qV eb m f t n h) (cw 32 rc (eb.length+1))
  =bif κ ((i:Z)<m)then Ξ [κ ((i:Z)<m),κ (0+aT i<m)] (Ξ (ob (f (0+aT i))) (Ξ [Δ n n,Δ (n+1) 549755813888] (.out .normal [.fn k cs,.own (eb.length+1) (n+1),.sl 0 9 0 0 m ζ,.v (ι m),.v (ι (aa .i64 ((i:Z)+1)))] (.row η m 9 (J f) t::(eb++[.row ε (n+1) 9 (λq=>[ι (bif ω q n then h q 0 else eM (ch (bh (f (0+aT i)))) 0),ι (bif ω q n then h q 1 else eM (ch (bh (f (0+aT i)))) 1),ι (bif ω q n then h q 2 else eM (ch (bh (f (0+aT i)))) 2),ι (bif ω q n then h q 3 else eM (ch (bh (f (0+aT i)))) 3),ι (bif ω q n then h q 4 else eM (ch (bh (f (0+aT i)))) 4),ι (bif ω q n then h q 5 else eM (ch (bh (f (0+aT i)))) 5),ι (bif ω q n then h q 6 else eM (ch (bh (f (0+aT i)))) 6),ι (bif ω q n then h q 7 else eM (ch (bh (f (0+aT i)))) 7),ι (bif ω q n then h q 8 else eM (ch (bh (f (0+aT i)))) 8)]) 123])))))else .out (.exit 0) [.own (eb.length+1) n] (qV eb m f t n h)
 owe:∀a,sH (bh a).r.f=ε->aJ (ob a)=ε
 q5:∀{L:E Wh},aO L=ε->nN (L.map ch)
def ajW:G2 jo=Hd:=by
 funext l
 rfl
def WA:aK θ (HB jo xM):=by unfold HB;rw[ajW];exact az (az ba ZZ) Z'
def pQ(L:E Wh)(w:Wh)(i:O)(a:L.length=i)(q:O)(b:q<i+1):[ι (bif ω q i then Y L q 0 else eM w 0),ι (bif ω q i then Y L q 1 else eM w 1),ι (bif ω q i then Y L q 2 else eM w 2),ι (bif ω q i then Y L q 3 else eM w 3),ι (bif ω q i then Y L q 4 else eM w 4),ι (bif ω q i then Y L q 5 else eM w 5),ι (bif ω q i then Y L q 6 else eM w 6),ι (bif ω q i then Y L q 7 else eM w 7),ι (bif ω q i then Y L q 8 else eM w 8)]=J (Y (L++[w])) q:=by subst a;exact aa6 L (eM w) q b
def z7(h:aO L=ε){w:Wh}(a:w∈L):(-1000<=w.s/\w.s<=1000)/\∀k,k<8-> -1000000<=w.r.f k/\w.r.f k<=1000000:=by rw[aO,aP]at h;have:=bT.1 h.2 w a;rw[aP]at this;exact⟨cd.1 this.1,xy.1 this.2⟩
def kF(h:aO L=ε):L.length<=12:=by rw[aO,aP]at h;exact aV h.1
def vk(h:aO L=ε){w:Wh}(a:w∈L):nC w.r:=λk b=>by have:=(z7 h a).2 k b;omega
def E5(h:aO L=ε){w:Wh}(a:w∈L):sH w.r.f=ε:=xy.2 (vk h a)
def Cc(a:ao):∀k,k<8->(bq a).f k=a k:=lM rfl rfl rfl rfl rfl rfl rfl rfl
def GD(b:∀k,k<8-> -9223372036854775808<=h k/\h k<=9223372036854775807):nC (bq h):=λk c=>by rw[Cc h k c];exact b k c
def aup(b:∀k,k<8-> -9223372036854775808<=h k/\h k<=9223372036854775807):∀k,k<8-> -9223372036854775808<=fT h k/\fT h k<=9223372036854775807:=
 lM (n6 _) (b 0 (by omega)) (b 1 (by omega)) (b 2 (by omega)) (n6 _) (b 4 (by omega)) (b 5 (by omega)) (b 6 (by omega))
def Rk{a:O->Z}(h:∀k,k<8-> -9223372036854775808<=a k/\a k<=9223372036854775807):∀(n k:O),k<8-> -9223372036854775808<=fX a n k/\fX a n k<=9223372036854775807
 |0=>h
 |n+1=>aup (Rk h n)
def ae2:Uc bo bC fP=KR:=by
 funext l
 rfl
def ae1:Ub bC fP=KQ:=by
 funext l
 rfl
def HG:aK θ (sx aO bo bC fP):=by unfold sx;rw[t_,ae2];exact az (az ba D7) Z9
def HF:aK θ (mg aO bC fP):=by unfold mg;rw[t_,ae1];exact az (az ba D7) Z8
def cz(f:Θ):(λq=>J f (0+q))=J f:=by
 funext q
 rw[bH]
def Ie{a b:AB}:∀(c:E AB),ab a b->Φ (c++[a]) (c++[b])
 |[],h=>.cons h .nil
 |x::c,h=>.cons (ab.refl x) (Ie c h)
def abR{ch:Wh->Wh}{ob:(O->Z)->E ξ}(H:tW I G S ch ob)(m:O)(f:Θ)(t:ae)(j:m<=2^38)(d:∀w∈V f m,sH w.r.f=ε):ck θ (S.length+1) (.block 0 (.loop (a5 0 ls))) (bm 32 (rc .normal) (S.length+1) (AF I G S m 0 0) (qV S m f t 0 (Y [])) (λa=>a .normal (ar 0 32 [(6,.own (S.length+1) m)]) (qV S m f t m (Y ((V f m).map ch))))):=by
 refine dQ WA (n:=100) (m:=S.length+1) (lv:=rc) (λi=>AF I G S m i i) (λi=>qV S m f t i (Y ((V f i).map ch))) (λ_=>True) m (λ_=>K) (du rfl rfl rfl) (aQ _) trivial λa Q e i o g=>⟨cN _ _ _,?_⟩
 rw[H.rnd];refine aD (λb=>?_) λb=>?_
 ·have b:=aV b
  have c:i<m:=by omega
  rw[cV,bH,bz (x:=(i:Z)+1)];refine c_ (aq (H.owe _ (d _ (kj (o4 f c)))) (c_ (F ⟨i+1,⟨rfl,c,trivial⟩,rfl,?_⟩)));show Φ _ (qV S m f t (i+1) (Y ((V f (i+1)).map ch)))
  rw[iQ,kP];refine .cons (ab.refl _) (Ie S (ab.row λq h=>?_));exact pQ _ (ch (bh (f i))) i (by rw[dv,cR]) q h
 ·have b:=cu b
  have:i=m:=by omega
  subst this;refine F ⟨_,Φ.refl _,?_⟩;rw[aU rfl];exact e
def Gw:ξ->E AV->E AB->χ Z
 |false,[],[]=>γ 0
 |true,[.ptr 1 0 0 0],[.cells [.v (.int .i64 x)] 3]=>γ x
 |_,_,_=>ζ
def U1(h:Gw q G S=γ A):G=lE q/\S=iO q A:=by unfold Gw at h;split at h<;>cases h<;>exact⟨rfl,rfl⟩
def pG(k:dm)(cap:ξ)(b:E Wh->ξ)(c:E Wh->E Wh)(d:E Wh->ξ)(a:Z->E Wh->E Wh)(ox:Z->E ξ):E AV->E AB->χ HR
 |[.sl 0 9 0 0 m ζ,.fn j f],.row η n 9 g t::e=>match Gw cap f e with
  |some x=>bif Ψ j k then γ {val:=.af [.sl (e.length+1) 9 0 0 (c (a x (V (ο g) m))).length (γ (c (a x (V (ο g) m))).length),.v (.bool ε)],out:=.row η n 9 g t::e,new:=h_ (c (a x (V (ο g) m))),aw:=[Ψ n m,aF m g,κ (m<=2^38),b (V (ο g) m)&&d (a x (V (ο g) m))]++ox x}else ζ
  |none=>ζ
 |_,_=>ζ
def pF(k:dm)(cap:ξ)(a:E Wh->ξ)(b:E Wh->ξ)(d:Z->E Wh->E Wh)(ox:Z->E ξ):E AV->E AB->χ HR
 |[.sl 0 9 0 0 m ζ,.fn j e],.row η n 9 g t::c=>match Gw cap e c with
  |some x=>bif Ψ j k then γ {val:=eP,out:=.row η n 9 g t::c,aw:=[Ψ n m,aF m g,κ (m<=2^38),!(a (V (ο g) m)&&b (d x (V (ο g) m)))]++ox x}else ζ
  |none=>ζ
 |_,_=>ζ
def D4{ch:Z->Wh->Wh}{ob:Z->(O->Z)->E ξ}{ox:Z->E ξ}(c:∀x,aJ (ox x)=ε->tW I (lE q) (iO q x) (ch x) (ob x)):ak θ 118 (ea [ε] (pG I q aO bo bC (λx L=>L.map (ch x)) ox)):=by
 refine xz HG Tc rfl λl H z a f=>?_
 unfold pG at a;split at a
 ·rename_i m j A n g t B
  split at a
  ·rename_i x o
   cases b:Ψ j I with
   |false=>rw[b]at a;cases a
   |true=>
   rw[b]at a;cases a;obtain rfl:=cA b;obtain⟨rfl,rfl⟩:=U1 o;simp only[lq,jO,Ω]at f;obtain⟨d,h,p,i,r⟩:=f;have d:=cA d;subst d;have s:=aV p;rw[aP]at i;obtain⟨e,u⟩:=i;have c:=c x r;have v:=abR c n (ο g) t s (λw y=>E5 e y);refine⟨.row η n 9 (J (ο g)) t::iO q x,zL j (lE q) (iO q x) n (ο g) t n (Y ((V (ο g) n).map (ch x))),100,.cons (ab.row λj b=>a7 h j b) (Φ.refl _),da v,?_⟩;show aE (ad θ (sx aO bo bC fP) (zL j (lE q) (iO q x) n (ο g) t n (Y ((V (ο g) n).map (ch x)))) 100 ls [.sl 0 9 0 0 n ζ,.fn j (lE q)] (.row η n 9 (J (ο g)) t::iO q x) (ag ((iO q x).length+1))) _
   rw[(QE q x).y,cz,cZ,hZ ((V (ο g) n).map (ch x)) n (by rw[dv,cR])];refine fu (bA (by rw[e];rfl) (aq ?_ (F ⟨rfl,.cons (ab.row λj b=>(a7 h j b).symm) (Φ.refl _)⟩)));simp only[Ω,ax,aj,dn];exact⟨dc,cG ⟨rfl,.cons (ab.refl _) (Ie _ (ab.row λj b=>aR b (dh _)))⟩,by simp,trivial,dc,cG (c.q5 e),u⟩
  ·cases a
 ·cases a
def D3{ch:Z->Wh->Wh}{ob:Z->(O->Z)->E ξ}{ox:Z->E ξ}(d:∀x,aJ (ox x)=ε->tW I (lE q) (iO q x) (ch x) (ob x)):ak θ 118 (ea [ε] (pF I q aO bC (λx L=>L.map (ch x)) ox)):=by
 refine xz HF Tc rfl λl H A b h=>?_
 unfold pF at b;split at b
 ·rename_i m j B n g t C
  split at b
  ·rename_i x o
   cases a:Ψ j I with
   |false=>rw[a]at b;cases b
   |true=>
   rw[a]at b;cases b;obtain rfl:=cA a;obtain⟨rfl,rfl⟩:=U1 o;simp only[lq,jO,Ω]at h;obtain⟨f,e,p,i,r⟩:=h;have f:=cA f;subst f;have s:=aV p;cases c:aO (V (ο g) n)with
   |false=>
    have u:ck θ ((iO q x).length+1) (.block 0 (.loop (a5 0 ls))) iv:=ur;refine⟨.row η n 9 (J (ο g)) t::iO q x,bX 0 iv,100,.cons (ab.row λj a=>a7 e j a) (Φ.refl _),da u,?_⟩;show aE (ad θ (mg aO bC fP) (bX 0 iv) 100 ls [.sl 0 9 0 0 n ζ,.fn j (lE q)] (.row η n 9 (J (ο g)) t::iO q x) (ag ((iO q x).length+1))) _
    rw[(QE q x).e,cz,cZ];exact fu (cv (by rw[c];rfl) (F ⟨rfl,(by rw[vp];exact .cons (ab.row λj a=>(a7 e j a).symm) (Φ.refl _))⟩))
   |true=>
   rw[c,ex]at i;have v:bC ((V (ο g) n).map (ch x))=η:=by simpa using i
   have d:=d x r;have y:=abR d n (ο g) t s (λw z=>E5 c z);refine⟨.row η n 9 (J (ο g)) t::iO q x,zL j (lE q) (iO q x) n (ο g) t n (Y ((V (ο g) n).map (ch x))),100,.cons (ab.row λj a=>a7 e j a) (Φ.refl _),da y,?_⟩;show aE (ad θ (mg aO bC fP) (zL j (lE q) (iO q x) n (ο g) t n (Y ((V (ο g) n).map (ch x)))) 100 ls [.sl 0 9 0 0 n ζ,.fn j (lE q)] (.row η n 9 (J (ο g)) t::iO q x) (ag ((iO q x).length+1))) _
   rw[(QE q x).n,cz,cZ,hZ ((V (ο g) n).map (ch x)) n (by rw[dv,cR])];refine fu (bA (by rw[c];rfl) (aq ?_ (F ⟨rfl,(by rw[vp];exact .cons (ab.row λj a=>(a7 e j a).symm) (Φ.refl _))⟩)));simp only[Ω,ax,aj,dn];exact⟨dc,cG ⟨rfl,.cons (ab.refl _) (Ie _ (ab.row λj a=>aR a (dh _)))⟩,by simp,trivial,dc,cG (d.q5 c),by rw[v];rfl⟩
  ·cases b
 ·cases b
def pN(w:Wh):Wh:=w
abbrev zU:E Wh->E Wh:=λL=>L.map pN
def al8(h:aO L=ε):nN (L.map pN):=by intro c a;obtain⟨w,b,rfl⟩:=gh.1 a;exact vk h b
def Vd:tW 211 (lE η) (iO η 0) pN (λ_=>[]):=⟨by intros;kernel_rfl,λ_ _=>rfl,al8⟩
abbrev aeV(a:E Wh->ξ)(c:E Wh->E Wh)(b:E Wh->ξ)(d:E Wh->E Wh):=pG 211 η a c b (λ_=>d) (λ_=>[])
abbrev aeQ(a:E Wh->ξ)(b:E Wh->ξ)(c:E Wh->E Wh):=pF 211 η a b (λ_=>c) (λ_=>[])
def ao5:ak θ 118 (ea [ε] (aeV aO bo bC zU)):=D4 (ch:=λ_=>pN) (λ_ _=>Vd)
def aoZ:ak θ 118 (ea [ε] (aeQ aO bC zU)):=D3 (ch:=λ_=>pN) (λ_ _=>Vd)
def sb(x:Z)(w:Wh):Wh:=⟨w.s,bq (xM w.r.f x)⟩
abbrev sW:Z->E Wh->E Wh:=λx L=>L.map (sb x)
def al9(x:Z)(h:aO L=ε):nN (L.map (sb x)):=by intro c a;obtain⟨w,b,rfl⟩:=gh.1 a;exact GD (Rk (vk h b) _)
def Ve(x:Z)(b:aH x (-9223372036854775808) 9223372036854775807=ε):tW 119 (lE ε) (iO ε x) (sb x) (λa=>[sH (v8 (a 1) (a 2) (a 3) (a 4) (a 5) (a 6) (a 7) (a 8)),aH x (-9223372036854775808) 9223372036854775807]):=⟨by intros;kernel_rfl,λa h=>by simp only[Ω,ax,aj];exact⟨h,b⟩,al9 x⟩
abbrev aeW(a:E Wh->ξ)(c:E Wh->E Wh)(b:E Wh->ξ)(d:Z->E Wh->E Wh):=pG 119 ε a c b d (λx=>[aH x (-9223372036854775808) 9223372036854775807])
abbrev aeR(a:E Wh->ξ)(b:E Wh->ξ)(c:Z->E Wh->E Wh):=pF 119 ε a b c (λx=>[aH x (-9223372036854775808) 9223372036854775807])
def ao6:ak θ 118 (ea [ε] (aeW aO bo bC sW)):=D4 (ch:=sb) (λx h=>Ve x (by simpa[aJ]using h))
def ao0:ak θ 118 (ea [ε] (aeR aO bC sW)):=D3 (ch:=sb) (λx h=>Ve x (by simpa[aJ]using h))
def r9(x:Z)(w:Wh):Wh:=⟨w.s,bq (xM w.r.f (aa aY (x*w.s)))⟩
abbrev sU:Z->E Wh->E Wh:=λx L=>L.map (r9 x)
def al6(x:Z)(h:aO L=ε):nN (L.map (r9 x)):=by intro c a;obtain⟨w,b,rfl⟩:=gh.1 a;exact GD (Rk (vk h b) _)
def Vb(x:Z):tW 122 (lE ε) (iO ε x) (r9 x) (λa=>[sH (v8 (a 1) (a 2) (a 3) (a 4) (a 5) (a 6) (a 7) (a 8)),aH (aa .i64 (x*a 0)) (-9223372036854775808) 9223372036854775807]):=⟨by intros;kernel_rfl,λa h=>by simp only[Ω,ax,aj];exact⟨h,cd.2 (n6 _)⟩,al6 x⟩
abbrev aeT(a:E Wh->ξ)(c:E Wh->E Wh)(b:E Wh->ξ)(d:Z->E Wh->E Wh):=pG 122 ε a c b d (λ_=>[])
abbrev aeO(a:E Wh->ξ)(b:E Wh->ξ)(c:Z->E Wh->E Wh):=pF 122 ε a b c (λ_=>[])
def ao3:ak θ 118 (ea [ε] (aeT aO bo bC sU)):=D4 (ch:=r9) (λx _=>Vb x)
def aoX:ak θ 118 (ea [ε] (aeO aO bC sU)):=D3 (ch:=r9) (λx _=>Vb x)
def r8(w:Wh):Wh:=⟨aa aY (0-w.s),w.r⟩
abbrev sT:E Wh->E Wh:=λL=>L.map r8
def al5(h:aO L=ε):nN (L.map r8):=by intro c a;obtain⟨w,b,rfl⟩:=gh.1 a;exact(vk h b:nC w.r)
def Va:tW 125 (lE η) (iO η 0) r8 (λ_=>[]):=⟨by intros;kernel_rfl,λ_ _=>rfl,al5⟩
abbrev aeS(a:E Wh->ξ)(c:E Wh->E Wh)(b:E Wh->ξ)(d:E Wh->E Wh):=pG 125 η a c b (λ_=>d) (λ_=>[])
abbrev aeN(a:E Wh->ξ)(b:E Wh->ξ)(c:E Wh->E Wh):=pF 125 η a b (λ_=>c) (λ_=>[])
def ao1:ak θ 118 (ea [ε] (aeS aO bo bC sT)):=D4 (ch:=λ_=>r8) (λ_ _=>Va)
def aoV:ak θ 118 (ea [ε] (aeN aO bC sT)):=D3 (ch:=λ_=>r8) (λ_ _=>Va)
def r_(w:Wh):Wh:=⟨aa aY (0-w.s),bq (jo w.r.f)⟩
abbrev sV:E Wh->E Wh:=λL=>L.map r_
def al7(_:aO L=ε):nN (L.map r_):=by intro b a;obtain⟨w,c,rfl⟩:=gh.1 a;exact GD λk _=>n6 _
def Vc:tW 126 (lE η) (iO η 0) r_ (λ_=>[]):=⟨by intros;kernel_rfl,λ_ _=>rfl,al7⟩
abbrev aeU(a:E Wh->ξ)(c:E Wh->E Wh)(b:E Wh->ξ)(d:E Wh->E Wh):=pG 126 η a c b (λ_=>d) (λ_=>[])
abbrev aeP(a:E Wh->ξ)(b:E Wh->ξ)(c:E Wh->E Wh):=pF 126 η a b (λ_=>c) (λ_=>[])
def ao4:ak θ 118 (ea [ε] (aeU aO bo bC sV)):=D4 (ch:=λ_=>r_) (λ_ _=>Vc)
def aoY:ak θ 118 (ea [ε] (aeP aO bC sV)):=D3 (ch:=λ_=>r_) (λ_ _=>Vc)
def nh(L:E Wh):ξ:=(aO L&&bC (L.map pN))
def oe(x:Z)(L:E Wh):ξ:=aH x 0 23&&(aO L&&bC (L.map (sb x)))
def oc(x:Z)(L:E Wh):ξ:=aH x 0 23&&(aO L&&bC (L.map (r9 x)))
def n_(L:E Wh):ξ:=(aO L&&bC (L.map r8))
def od(L:E Wh):ξ:=(aO L&&bC (L.map r_))
def rX(a:E Wh->ξ)(b:E Wh->E Wh)(c:E Wh->E Wh):E SA->χ FR
 |[.row m g]=>γ {val:=li (b (c (V (ο g) m))),new:=h_ (b (c (V (ο g) m))),aw:=[aF m g,κ (m<=2^38),a (V (ο g) m)]}
 |_=>ζ
def tY(a:E Wh->ξ):E SA->χ FR
 |[.row m g]=>γ {val:=eP,aw:=[aF m g,κ (m<=2^38),!a (V (ο g) m)]}
 |_=>ζ
def vP(a:Z->E Wh->ξ)(b:E Wh->E Wh)(c:Z->E Wh->E Wh):E SA->χ FR
 |[.row m g,.v (.int .i64 x)]=>γ {val:=li (b (c x (V (ο g) m))),new:=h_ (b (c x (V (ο g) m))),aw:=[aF m g,κ (m<=2^38),a x (V (ο g) m)]}
 |_=>ζ
def vO(a:Z->E Wh->ξ):E SA->χ FR
 |[.row m g,.v (.int .i64 x)]=>γ {val:=eP,aw:=[aF m g,κ (m<=2^38),!a x (V (ο g) m)]}
 |_=>ζ
abbrev TW:=rX
abbrev TY:=rX
abbrev TS:=tY
abbrev TV:=tY
abbrev TX:=vP
abbrev TU:=vO
def PA{q k:dm}{fn:cb}{ch:Wh->Wh}{h:E Wh->ξ}(t:θ.funcs[q]?=γ fn)(u:fn.body.isSome=ε)(d:∀L,h L=(aO L&&bC (L.map ch)))(v:ak θ 118 (ea [ε] (pG k η aO bo bC (λ_ L=>L.map ch) λ_=>[])))(w:ak θ 118 (ea [ε] (pF k η aO bC (λ_ L=>L.map ch) λ_=>[])))(x:∀(a:E Wh->ξ)(p:E Wh->E Wh)(b:E Wh->ξ)(e:E Wh->E Wh)(m:O)(f:Θ),ad θ (ext lN 118 (ea [ε] (pG k η a p b (λ_=>e) λ_=>[]))) K 100 fn [.sl 0 9 0 0 m ζ] [.row η m 9 (J f) 123] (ag 1)=Ξ [Ψ m m,aF m (J f),κ (m<=274877906944),a (V (ο (J f)) m)&&b (e (V (ο (J f)) m))] (.out .ret [.af [.sl 1 9 0 0 (p (e (V (ο (J f)) m))).length (γ (p (e (V (ο (J f)) m))).length),.v (.bool ε)]] (.row η m 9 (J f) 123::h_ (p (e (V (ο (J f)) m))))))(y:∀(a:E Wh->ξ)(b:E Wh->ξ)(e:E Wh->E Wh)(m:O)(f:Θ),ad θ (ext lN 118 (ea [ε] (pF k η a b (λ_=>e) λ_=>[]))) K 100 fn [.sl 0 9 0 0 m ζ] [.row η m 9 (J f) 123] (ag 1)=Ξ [Ψ m m,aF m (J f),κ (m<=274877906944),!(a (V (ο (J f)) m)&&b (e (V (ο (J f)) m)))] (.out .ret [eP] [.row η m 9 (J f) 123])):ak θ q (ai bF (rX h bo λL=>L.map ch))/\ak θ q (ai bF (tY h)):=by
 refine⟨ca (az nI v) t u λr z c l=>?_,ca (az nI w) t u λr z c l=>?_⟩
 ·unfold rX at c
  split at c
  ·rename_i m g
   cases c;simp only[Ω]at l;obtain⟨n,s,o,_⟩:=l;rw[d]at o;refine⟨[.row η m 9 (J (ο g)) 123],K,100,.cons (ab.row λj i=>a7 n j i) .nil,de _,?_⟩;show aE (ad _ _ _ _ _ [.sl 0 9 0 0 m ζ] [.row η m 9 (J (ο g)) 123] (ag 1)) _
   rw[show(λ(_:Z)(L:E Wh)=>L.map ch)=λ_=>Fq ch from rfl,x];exact aq (by simp only[Ω,ax,aj,kr,dn,cZ,bv];exact⟨s,o⟩) (F ⟨_,rfl,rfl,.cons (ab.row λj i=>(a7 n j i).symm) (Φ.refl _)⟩)
  ·cases c
 ·unfold tY at c
  split at c
  ·rename_i m g
   cases c;simp only[Ω]at l;obtain⟨n,s,o,_⟩:=l;rw[d]at o;refine⟨[.row η m 9 (J (ο g)) 123],K,100,.cons (ab.row λj i=>a7 n j i) .nil,de _,?_⟩;show aE (ad _ _ _ _ _ [.sl 0 9 0 0 m ζ] [.row η m 9 (J (ο g)) 123] (ag 1)) _
   rw[show(λ(_:Z)(L:E Wh)=>L.map ch)=λ_=>Fq ch from rfl,y];exact aq (by simp only[Ω,ax,aj,kr,dn,cZ,bv];exact⟨s,o⟩) (F ⟨_,rfl,rfl,.cons (ab.row λj i=>(a7 n j i).symm) .nil⟩)
  ·cases c
def ZI{s k:dm}{fn:cb}{ch:Z->Wh->Wh}{i:Z->E Wh->ξ}{ox:Z->E ξ}(v:θ.funcs[s]?=γ fn)(w:fn.body.isSome=ε)(e:∀x L,i x L=(aH x 0 23&&(aO L&&bC (L.map (ch x)))))(o:∀x,aH x 0 23=ε->aJ (ox x)=ε)(y:ak θ 118 (ea [ε] (pG k ε aO bo bC (λx L=>L.map (ch x)) ox)))(z:ak θ 118 (ea [ε] (pF k ε aO bC (λx L=>L.map (ch x)) ox)))(A:∀(a:E Wh->ξ)(r:E Wh->E Wh)(b:E Wh->ξ)(h:Z->E Wh->E Wh)(m:O)(f:Θ)(x:Z),ad θ (ext lN 118 (ea [ε] (pG k ε a r b h ox))) K 100 fn [.sl 0 9 0 0 m ζ,.v (ι x)] [.row η m 9 (J f) 123] (ag 1)=bif !aH x 0 23 then .out .ret [eP] [.row η m 9 (J f) 123]else Ξ ([Ψ m m,aF m (J f),κ (m<=274877906944),a (V (ο (J f)) m)&&b (h x (V (ο (J f)) m))]++ox x) (.out .ret [.af [.sl 1 9 0 0 (r (h x (V (ο (J f)) m))).length (γ (r (h x (V (ο (J f)) m))).length),.v (.bool ε)]] (.row η m 9 (J f) 123::h_ (r (h x (V (ο (J f)) m))))))(B:∀(a:E Wh->ξ)(b:E Wh->ξ)(h:Z->E Wh->E Wh)(m:O)(f:Θ)(x:Z),ad θ (ext lN 118 (ea [ε] (pF k ε a b h ox))) K 100 fn [.sl 0 9 0 0 m ζ,.v (ι x)] [.row η m 9 (J f) 123] (ag 1)=bif !aH x 0 23 then .out .ret [eP] [.row η m 9 (J f) 123]else Ξ ([Ψ m m,aF m (J f),κ (m<=274877906944),!(a (V (ο (J f)) m)&&b (h x (V (ο (J f)) m)))]++ox x) (.out .ret [eP] [.row η m 9 (J f) 123])):ak θ s (ai dl (vP i bo λx L=>L.map (ch x)))/\ak θ s (ai dl (vO i)):=by
 refine⟨ca (az nI y) v w λt C c p=>?_,ca (az nI z) v w λt C c p=>?_⟩
 ·unfold vP at c
  split at c
  ·rename_i m g x
   cases c;simp only[Ω]at p;obtain⟨n,u,l,_⟩:=p;rw[e,aP]at l;obtain⟨q,l⟩:=l;refine⟨[.row η m 9 (J (ο g)) 123],K,100,.cons (ab.row λj d=>a7 n j d) .nil,de _,?_⟩;show aE (ad _ _ _ _ _ [.sl 0 9 0 0 m ζ,.v (ι x)] [.row η m 9 (J (ο g)) 123] (ag 1)) _
   rw[A];exact bA (by rw[q];rfl) (aq (by simp only[lq,jO,Ω,kr,dn,cZ,bv];exact⟨u,l,o x q⟩) (F ⟨_,rfl,rfl,.cons (ab.row λj d=>(a7 n j d).symm) (Φ.refl _)⟩))
  ·cases c
 ·unfold vO at c
  split at c
  ·rename_i m g x
   cases c;simp only[Ω]at p;obtain⟨n,u,l,_⟩:=p;refine⟨[.row η m 9 (J (ο g)) 123],K,100,.cons (ab.row λj d=>a7 n j d) .nil,de _,?_⟩;show aE (ad _ _ _ _ _ [.sl 0 9 0 0 m ζ,.v (ι x)] [.row η m 9 (J (ο g)) 123] (ag 1)) _
   rw[B];cases q:aH x 0 23 with
   |false=>exact cv rfl (F ⟨_,rfl,rfl,.cons (ab.row λj d=>(a7 n j d).symm) .nil⟩)
   |true=>rw[e,q,ex]at l;exact bA rfl (aq (by simp only[lq,jO,Ω,kr,dn,cZ,bv];exact⟨u,l,o x q⟩) (F ⟨_,rfl,rfl,.cons (ab.row λj d=>(a7 n j d).symm) .nil⟩))
  ·cases c
def ZN:ak θ 128 (ai bF (rX nh bo zU))/\ak θ 128 (ai bF (tY nh)):=PA (ch:=pN) func128 rfl (λ_=>rfl) ao5 aoZ (by intros;kernel_rfl) (by intros;kernel_rfl)
def ZP:ak θ 128 (ai bF (rX nh bo zU)):=ZN.1
def ZM:ak θ 128 (ai bF (tY nh)):=ZN.2
def ZJ:ak θ 67 (ai bF (rX n_ bo sT))/\ak θ 67 (ai bF (tY n_)):=PA (ch:=r8) func67 rfl (λ_=>rfl) ao1 aoV (by intros;kernel_rfl) (by intros;kernel_rfl)
def apj:ak θ 67 (ai bF (TW n_ bo sT)):=ZJ.1
def ape:ak θ 67 (ai bF (TS n_)):=ZJ.2
def ZL:ak θ 68 (ai bF (rX od bo sV))/\ak θ 68 (ai bF (tY od)):=PA (ch:=r_) func68 rfl (λ_=>rfl) ao4 aoY (by intros;kernel_rfl) (by intros;kernel_rfl)
def apm:ak θ 68 (ai bF (TY od bo sV)):=ZL.1
def aph:ak θ 68 (ai bF (TV od)):=ZL.2
def ZO:ak θ 63 (ai dl (vP oe bo sW))/\ak θ 63 (ai dl (vO oe)):=ZI (ch:=sb) func63 rfl (λ_ _=>rfl) (λx h=>by rw[Ω];exact⟨cd.2 (by have:=cd.1 h;omega),rfl⟩) ao6 ao0 (by intros;kernel_rfl) (by intros;kernel_rfl)
def apn:ak θ 63 (ai dl (vP oe bo sW)):=ZO.1
def api:ak θ 63 (ai dl (vO oe)):=ZO.2
def ZK:ak θ 65 (ai dl (vP oc bo sU))/\ak θ 65 (ai dl (vO oc)):=ZI (ch:=r9) func65 rfl (λ_ _=>rfl) (λ_ _=>rfl) ao3 aoX (by intros;kernel_rfl) (by intros;kernel_rfl)
def apl:ak θ 65 (ai dl (TX oc bo sU)):=ZK.1
def apg:ak θ 65 (ai dl (TU oc)):=ZK.2
def MH(md:Z->Z):E τ->χ (τ×E ξ)
 |[.int .i64 n]=>γ (.int .i64 (md n),[])
 |_=>ζ
def F'(a:(O->Z)->Z->O->Z):E SA->χ FR
 |[.v (.agg ⟨[.int .i64 b,.int .i64 c,.int .i64 d,.int .i64 e,.int .i64 f,.int .i64 g,.int .i64 h,.int .i64 i]⟩),.v (.int .i64 n)]=>γ {val:=.agg (fe (a (v8 b c d e f g h i) n)),aw:=[κ (n<=2^40)]}
 |_=>ζ
def Nl(md:Z->Z)(a:(O->Z)->Z->O->Z)(b:(O->Z)->Z->(O->Z)->O->Z):aG:=ext (ext (ext g0 235 (aW (MH md))) 234 (ai [.val,.val] (F' a))) 239 (aW (MD b))
abbrev Dh:Ex->E O:=cj [0,1,4,5,6] [4,5] [4]
abbrev mi(m:O)(f:Θ)(t:ae)(a:ao):E AB:=[.row η m 9 (J f) t,.cells (fe λ_=>0) 88,.cells (fe a) 88]
abbrev EA(m:O)(n:Z)(i:O):E AV:=[.sl 0 9 0 0 m ζ,.v (ι n),.ptr 1 0 0 0,.ptr 2 0 0 0,.v (ι i)]
def asa(md:Z->Z)(h:(O->Z)->Z->O->Z)(b:(O->Z)->Z->(O->Z)->O->Z)(m:O)(f:Θ)(t:ae)(a:ao)(n:Z)(i:O):let j:=AB.cells [vI 0,vI 0,vI 0,vI 0,vI 0,vI 0,vI 0,vI 0] 88;let g:=(↑i:Z);let c:=(1:Z);let k:=κ (0+aT g<m);let l:=AB.row η m 9 (J f) t;let o:=κ (g<(m:Z));let d:=(0+aT g);let p:=(aa .i64 (n*f d 0));let e:=(w8 (h (v8 (f d 1) (f d 2) (f d 3) (f d 4) (f d 5) (f d 6) (f d 7) (f d 8)) (md p)));a0 θ (Nl md h b) 100 K (a5 0 SW) (ar 0 31 ((Dh .normal).zip (EA m n i))) (mi m f t a) (cw 31 Dh 1)
 =bif κ (g<(m:Z))then Ξ [o,k,o,k,κ (md p<=(1099511627776:Z))] (am.out .normal [AV.sl 0 9 0 0 m ζ,vI n,AV.ptr 1 0 0 0,AV.ptr 2 0 0 0,vI (aa .i64 (g+c))] [l,j,AB.cells [vI (b (w8 a) c e 0),vI (b (w8 a) c e 1),vI (b (w8 a) c e 2),vI (b (w8 a) c e 3),vI (b (w8 a) c e 4),vI (b (w8 a) c e 5),vI (b (w8 a) c e 6),vI (b (w8 a) c e 7)] 88])else am.out (Ex.exit 0) [AV.ptr 1 0 0 0,AV.ptr 2 0 0 0] [l,j,AB.cells [vI (a 0),vI (a 1),vI (a 2),vI (a 3),vI (a 4),vI (a 5),vI (a 6),vI (a 7)] 88]:=by intros;kernel_rfl
noncomputable abbrev Oj(m:O)(f:Θ)(t:ae)(n:Z)(b:ao):O->χ Sum:=bX 0 (bm 31 (Dh .normal) 1 (EA m n 0) (mi m f t λ_=>0) (λa=>a .normal (ar 0 31 [(4,.ptr 1 0 0 0),(5,.ptr 2 0 0 0)]) (mi m f t b)))
def awm(m:O)(f:Θ)(t:ae)(n:Z)(b:ao):let a:=AB.cells [vI 0,vI 0,vI 0,vI 0,vI 0,vI 0,vI 0,vI 0] 88;let c:=AB.row η m 9 (J f) t;ad θ g0 (Oj m f t n b) 100 SW [.sl 0 9 0 0 m ζ,.v (ι n)] [.row η m 9 (J f) t] (ag 1)
 =Ξ [cy ([AV.sl 0 9 0 0 m ζ,vI n,AV.ptr 1 0 0 0,AV.ptr 2 0 0 0,vI 0]=EA m n 0/\Φ [c,a,a] (mi m f t λ_=>(0:Z)))] (rO [AV.agg [vI (b 0),vI (b 1),vI (b 2),vI (b 3),vI (b 4),vI (b 5),vI (b 6),vI (b 7)]] [c]):=by intros;kernel_rfl
def VW:MH (λn=>n%24)=G8:=by
 funext l
 rfl
def LD:F' (λa n=>fX a n.toNat)=KT:=by
 funext l
 rfl
def akK:aK θ (Nl (λn=>n%24) (λa n=>fX a n.toNat) mA):=by unfold Nl;rw[VW,LD,VS];exact az (az (az ba PE) PM) PF
def eI(f:Θ)(n:Z):O->O->Z
 |0=>λ_=>0
 |i+1=>mA (eI f n i) 1 (fX (v8 (f i 1) (f i 2) (f i 3) (f i 4) (f i 5) (f i 6) (f i 7) (f i 8)) (aa aY (n*f i 0)%24).toNat)
def auD(m:O)(f:Θ)(t:ae)(n:Z)(g:m<=2^40):ck θ 1 (.block 0 (.loop (a5 0 SW))) (bm 31 (Dh .normal) 1 (EA m n 0) (mi m f t λ_=>0) (λa=>a .normal (ar 0 31 [(4,.ptr 1 0 0 0),(5,.ptr 2 0 0 0)]) (mi m f t (eI f n m)))):=by
 refine dQ akK (n:=100) (m:=1) (lv:=Dh) (λi=>EA m n i) (λi=>mi m f t (eI f n i)) (λ_=>True) m (λ_=>K) (du rfl rfl rfl) (aQ _) trivial λa Q d i j e=>⟨cN _ _ _,?_⟩
 rw[asa];refine aD (λb=>?_) λb=>?_
 ·have b:=aV b
  have c:i<m:=by omega
  rw[cV,bH,bz (x:=(i:Z)+1)];refine c_ (F ⟨i+1,⟨rfl,c,trivial⟩,rfl,Φ.refl _⟩)
 ·have b:=cu b
  have:i=m:=by omega
  subst this;refine F ⟨_,Φ.refl _,?_⟩;rw[aU rfl];exact d
def KX(a:(O->O->Z)->Z->O->O->Z):E SA->χ FR
 |[.row m g,.v (.int .i64 n)]=>γ {val:=.agg (fe (a (ο g) n m)),aw:=[aF m g,κ (m<=2^38)]}
 |_=>ζ
def Gn(g:Θ)(n:Z)(m:O):eI (ο (J g)) n m=eI g n m:=by
 induction m with
 |zero=>rfl
 |succ m a=>rw[eI,a];rfl
def apW:ak θ 166 (ai dl (KX eI)):=by
 refine ca ba func166 rfl λe h a c=>?_
 unfold KX at a;split at a
 ·rename_i m g n
  cases a;simp only[Ω]at c;obtain⟨d,f,_⟩:=c;have i:=aV f;refine⟨[.row η m 9 (J (ο g)) 123],Oj m (ο g) 123 n (eI (ο g) n m),100,.cons (ab.row λj b=>a7 d j b) .nil,da (auD m (ο g) 123 n (by omega)),?_⟩;show aE (ad θ g0 (Oj m (ο g) 123 n (eI (ο g) n m)) 100 SW [.sl 0 9 0 0 m ζ,.v (ι n)] [.row η m 9 (J (ο g)) 123] (ag 1)) _
  rw[awm];exact aq (by rw[Ω];exact⟨cG ⟨rfl,Φ.refl _⟩,rfl⟩) (F ⟨_,rfl,rfl,.cons (ab.row λj b=>(a7 d j b).symm) .nil⟩)
 ·cases a
def T4(i:(O->Z)->O->Z)(j:(O->Z)->ξ):E SA->χ FR
 |[.v (.agg ⟨[.int .i64 a,.int .i64 b,.int .i64 c,.int .i64 d,.int .i64 e,.int .i64 f,.int .i64 g,.int .i64 h]⟩)]=>γ {val:=.af [.agg (fe (i (v8 a b c d e f g h))),.v (.bool (j (v8 a b c d e f g h)))]}
 |_=>ζ
def aeY:T4 uq (λv=>bt (bq v))=KO:=by
 funext l
 rfl
def HK(a:(O->O->Z)->Z->O->O->Z)(b:(O->Z)->O->Z)(c:(O->Z)->ξ):aG:=ext (ext (ext (ext g0 157 (ai bF vN)) 164 (aW CA)) 166 (ai dl (KX a))) 165 (ai [.val] (T4 b c))
def awD(c:(O->O->Z)->Z->O->O->Z)(a:(O->Z)->O->Z)(e:(O->Z)->ξ)(m:O)(f:Θ)(t:ae)(n:Z):let g:=[AV.af [AV.agg [vI 0,vI 0,vI 0,vI 0,vI 0,vI 0,vI 0,vI 0],vB η]];let d:=[AB.row η m 9 (J f) t];let h:=aF m λq=>J f (0+q);let i:=(ο λq=>J f (0+q));let b:=(w8 (c i n m));ad θ (HK c a e) K 100 f96 [.sl 0 9 0 0 m ζ,.v (ι n)] [.row η m 9 (J f) t] (ag 1)
 =Ξ [Δ (0+m) m,h,κ (m<=549755813888)] (bif !aO (V i m)then rO g d else bif !aH n (0:Z) (23:Z)then rO g d else Ξ [Δ (0+m) m,h,κ (m<=274877906944)] (rO [AV.af [AV.agg [vI (a b 0),vI (a b 1),vI (a b 2),vI (a b 3),vI (a b 4),vI (a b 5),vI (a b 6),vI (a b 7)],AV.v (.bool (e b))]] d)):=by intros;kernel_rfl
def MF(a:Z->ξ):E τ->χ (τ×E ξ)
 |[.int .i64 n]=>γ (.bool (a n),[])
 |_=>ζ
def F7(a:E Wh->E Wh)(b:E Wh->ξ):E SA->χ FR
 |[.row m g]=>γ {val:=.af [.own 0 (a (V (ο g) m)).length,.v (.bool (b (V (ο g) m)))],new:=[.row ε (a (V (ο g) m)).length 9 (J (Y (a (V (ο g) m)))) 123],aw:=[aF m g,κ (m<=2^38)]}
 |_=>ζ
def Nq(md:Z->Z)(a:(O->Z)->O->Z)(b:(O->Z)->Z->O->Z):aG:=ext (ext (ext g0 235 (aW (MH md))) 233 (aW (G2 a))) 234 (ai [.val,.val] (F' b))
abbrev Dt:Ex->E O:=cj [0,1,2,3,4,12,13] [12] [10,11]
abbrev EG(m:O)(sp tn la:Z)(mir:ξ)(n i:O):E AV:=[.sl 0 9 0 0 m ζ,.v (ι sp),.v (ι tn),.v (ι la),.v (.bool mir),.own 1 n,.v (ι i)]
def asv(md:Z->Z)(o:(O->Z)->O->Z)(a:(O->Z)->Z->O->Z)(m:O)(f:Θ)(t:ae)(sp tn la:Z)(mir:ξ)(n:O)(h:Θ)(i:O):let j:=(↑i:Z);let k:=κ (0+aT j<m);let l:=AB.row η m 9 (J f) t;let g:=κ (j<(m:Z));let c:=(0+aT j);let p:=[AV.sl 0 9 0 0 m ζ,vI sp,vI tn,vI la,AV.v (.bool mir),AV.own 1 (n+1),vI (aa .i64 (j+(1:Z)))];let d:=(v8 (f c 1) (f c 2) (f c 3) (f c 4) (f c 5) (f c 6) (f c 7) (f c 8));let r:=(aa .i64 (tn+aa .i64 (la*f c 0)));let s:=[g,k,g,k,κ (md r<=(1099511627776:Z)),Δ n n,Δ (n+1) 549755813888];let e:=(w8 (o d));let b:=(md r);a0 θ (Nq md o a) 100 K (a5 0 SN) (ar 0 71 ((Dt .normal).zip (EG m sp tn la mir n i))) (jY m f t n h) (cw 71 Dt 1)
 =bif κ (j<(m:Z))then Ξ [g,k] (bif mir then Ξ s (am.out .normal p [l,AB.row ε (n+1) 9 (λq=>[ι (bif ω q n then h q 0 else aa .i64 (sp*f c 0)),ι (bif ω q n then h q 1 else a e b 0),ι (bif ω q n then h q 2 else a e b 1),ι (bif ω q n then h q 3 else a e b 2),ι (bif ω q n then h q 4 else a e b 3),ι (bif ω q n then h q 5 else a e b 4),ι (bif ω q n then h q 6 else a e b 5),ι (bif ω q n then h q 7 else a e b 6),ι (bif ω q n then h q 8 else a e b 7)]) 123])else Ξ s (am.out .normal p [l,AB.row ε (n+1) 9 (λq=>[ι (bif ω q n then h q 0 else aa .i64 (sp*f c 0)),ι (bif ω q n then h q 1 else a d b 0),ι (bif ω q n then h q 2 else a d b 1),ι (bif ω q n then h q 3 else a d b 2),ι (bif ω q n then h q 4 else a d b 3),ι (bif ω q n then h q 5 else a d b 4),ι (bif ω q n then h q 6 else a d b 5),ι (bif ω q n then h q 7 else a d b 6),ι (bif ω q n then h q 8 else a d b 7)]) 123]))else am.out (Ex.exit 0) [AV.own 1 n] [l,AB.row ε n 9 (J h) 123]:=by intros;kernel_rfl
noncomputable abbrev Ou(m:O)(f:Θ)(t:ae)(sp tn la:Z)(mir:ξ)(n:O)(h:Θ):O->χ Sum:=bX 0 (bm 71 (Dt .normal) 1 (EG m sp tn la mir 0 0) (jY m f t 0 (Y [])) (λa=>a .normal (ar 0 71 [(12,.own 1 n)]) (jY m f t n h)))
def HO(a:E Wh->ξ)(is:Z->ξ)(c:E Wh->E Wh)(b:E Wh->ξ):aG:=ext (ext (ext g0 157 (ai bF (qD a))) 164 (aW (MF is))) 158 (ai bF (F7 c b))
def awP(a:E Wh->ξ)(is:Z->ξ)(d:E Wh->E Wh)(b:E Wh->ξ)(m:O)(f:Θ)(t:ae)(sp tn la:Z)(mir:ξ)(n:O)(h:Θ):let e:=[AV.af [AV.own 1 0,vB η]];let g:=(V (ο (J h)) n);let i:=AB.row η m 9 (J f) t;let j:=(ce (d g));let c:=[i,AB.row ε 0 9 (λ_=>[]) 123];ad θ (HO a is d b) (Ou m f t sp tn la mir n h) 100 SN [.sl 0 9 0 0 m ζ,.v (ι sp),.v (ι tn),.v (ι la),.v (.bool mir)] [.row η m 9 (J f) t] (ag 1)
 =Ξ [Δ (0+m) m,aF m λq=>J f (0+q),κ (m<=549755813888)] (bif !a (V (ο λq=>J f (0+q)) m)then rO e c else bif !is tn then rO e c else bif !is la then rO e c else Ξ [cy ([AV.sl 0 9 0 0 m ζ,vI sp,vI tn,vI la,AV.v (.bool mir),AV.own 1 0,vI 0]=EG m sp tn la mir 0 0/\Φ c (jY m f t 0 (Y []))),Δ n n,aF n (J h),κ (n<=274877906944)] (rO [AV.af [AV.own 1 j,AV.v (.bool (b g))]] [i,AB.row ε j 9 (J (Y (d g))) 123])):=by intros;kernel_rfl
def VV:MF (λn=>aH n 0 23)=CA:=by
 funext l
 rfl
def F8:F7 bo bC=KS:=by
 funext l
 rfl
def ak3:aK θ (Nq (λn=>n%24) jo (λa n=>fX a n.toNat)):=by
 have e:G2 jo=G9:=by funext l;rfl
 unfold Nq;rw[VW,LD,e];exact az (az (az ba PE) ZS) PM
def ak5:aK θ (HO aO (λn=>aH n 0 23) bo bC):=by unfold HO;rw[VV,F8,t_];exact az (az (az ba z9) IQ) IS
def ep(sp tn la:Z)(mir:ξ)(w:Wh):Wh:=⟨aa aY (sp*w.s),bq (fX (bif mir then w8 (jo w.r.f)else w.r.f) ((aa aY (tn+aa aY (la*w.s)))%24).toNat)⟩
def auP(m:O)(f:Θ)(t:ae)(sp tn la:Z)(mir:ξ)(h:m<=2^38):ck θ 1 (.block 0 (.loop (a5 0 SN))) (bm 71 (Dt .normal) 1 (EG m sp tn la mir 0 0) (jY m f t 0 (Y [])) (λa=>a .normal (ar 0 71 [(12,.own 1 m)]) (jY m f t m (Y ((V f m).map (ep sp tn la mir)))))):=by
 refine dQ ak3 (n:=100) (m:=1) (lv:=Dt) (λi=>EG m sp tn la mir i i) (λi=>jY m f t i (Y ((V f i).map (ep sp tn la mir)))) (λ_=>True) m (λ_=>K) (du rfl rfl rfl) (aQ _) trivial λa Q e i k g=>⟨cN _ _ _,?_⟩
 rw[asv];refine aD (λb=>?_) λb=>?_
 ·have b:=aV b
  have c:i<m:=by omega
  rw[cV,bH,bz (x:=(i:Z)+1)];refine c_ ?_;cases mir with
  |true=>
   refine c_ (F ⟨i+1,⟨rfl,c,trivial⟩,rfl,?_⟩);show Φ _ (jY m f t (i+1) (Y ((V f (i+1)).map (ep sp tn la ε))))
   rw[iQ,kP];refine .cons (ab.refl _) (.cons (ab.row λq d=>?_) .nil);exact pQ _ (ep sp tn la ε (bh (f i))) i (by rw[dv,cR]) q d
  |false=>
   refine c_ (F ⟨i+1,⟨rfl,c,trivial⟩,rfl,?_⟩);show Φ _ (jY m f t (i+1) (Y ((V f (i+1)).map (ep sp tn la η))))
   rw[iQ,kP];refine .cons (ab.refl _) (.cons (ab.row λq d=>?_) .nil);exact pQ _ (ep sp tn la η (bh (f i))) i (by rw[dv,cR]) q d
 ·have b:=cu b
  have:i=m:=by omega
  subst this;refine F ⟨_,Φ.refl _,?_⟩;rw[aU rfl];exact e
def i5(tn la:Z)(L:E Wh):ξ:=aO L&&(aH tn 0 23&&aH la 0 23)
def hP(sp tn la:Z)(mir:ξ)(L:E Wh):ξ:=i5 tn la L&&bC (L.map (ep sp tn la mir))
def ga(sp tn la:Z)(mir:ξ)(L:E Wh):E Wh:=bif i5 tn la L then bo (L.map (ep sp tn la mir))else[]
def K5(f:Z->Z->Z->ξ->E Wh->ξ)(e:Z->Z->Z->ξ->E Wh->E Wh):E SA->χ FR
 |[.row m g,.v (.int .i64 b),.v (.int .i64 c),.v (.int .i64 d),.v (.bool a)]=>γ {val:=.af [.own 0 (e b c d a (V (ο g) m)).length,.v (.bool (f b c d a (V (ο g) m)))],new:=[.row ε (e b c d a (V (ο g) m)).length 9 (J (Y (e b c d a (V (ο g) m)))) 123],aw:=[aF m g,κ (m<=2^38)]}
 |_=>ζ
def O8:E Md:=[.rd 9 123,.val,.val,.val,.val]
def apv:ak θ 153 (ai O8 (K5 hP ga)):=by
 refine ca ak5 func153 rfl λu A o r=>?_
 unfold K5 at o;split at o
 ·rename_i m g f c d a
  cases o;simp only[Ω]at r;obtain⟨s,v,_⟩:=r;have t:=aV v;refine⟨[.row η m 9 (J (ο g)) 123],Ou m (ο g) 123 f c d a m (Y ((V (ο g) m).map (ep f c d a))),100,.cons (ab.row λj h=>a7 s j h) .nil,da (auP m (ο g) 123 f c d a t),?_⟩;show aE (ad θ (HO aO (λn=>aH n 0 23) bo bC) (Ou m (ο g) 123 f c d a m (Y ((V (ο g) m).map (ep f c d a)))) 100 SN [.sl 0 9 0 0 m ζ,.v (ι f),.v (ι c),.v (ι d),.v (.bool a)] [.row η m 9 (J (ο g)) 123] (ag 1)) _
  rw[awP,cz,cZ,hZ ((V (ο g) m).map (ep f c d a)) m (by rw[dv,cR])];have k:∀(D:E Wh)(b:ξ)(G:O->E τ),hP f c d a (V (ο g) m)=b->ga f c d a (V (ο g) m)=D->(∀j,j<D.length->G j=J (Y D) j)->aE (.out .ret [.af [.own 1 D.length,.v (.bool b)]] [.row η m 9 (J (ο g)) 123,.row ε D.length 9 G 123])
    (dX (bJ O8 [.row m g,.v (ι f),.v (ι c),.v (ι d),.v (.bool a)] []) {val:=.af [.own 0 (ga f c d a (V (ο g) m)).length,.v (.bool (hP f c d a (V (ο g) m)))],new:=[.row ε (ga f c d a (V (ο g) m)).length 9 (J (Y (ga f c d a (V (ο g) m)))) 123],aw:=[aF m g,κ (m<=2^38)]}):=by
   rintro D b G rfl rfl z;exact F ⟨_,rfl,rfl,.cons (ab.row λj h=>(a7 s j h).symm) (.cons (ab.row z) .nil)⟩
  have i:i5 c d (V (ο g) m)=η->aE (.out .ret [.af [.own 1 0,.v (.bool η)]] [.row η m 9 (J (ο g)) 123,.row ε 0 9 (λ_=>[]) 123]) _:=λe=>k [] η _ (by rw[hP,e];rfl) (by rw[ga,e];rfl) λj h=>aR h (dh _)
  refine fu ?_;cases l:aO (V (ο g) m)with
  |false=>exact cv rfl (i (by rw[i5,l];rfl))
  |true=>
   refine bA rfl ?_;cases p:aH c 0 23 with
   |false=>exact cv rfl (i (by rw[i5,l,p];rfl))
   |true=>
    refine bA rfl ?_;cases q:aH d 0 23 with
    |false=>exact cv rfl (i (by rw[i5,l,p,q];rfl))
    |true=>refine bA rfl (aq ?_ (k _ _ _ (by rw[hP,i5,l,p,q];rfl) (by rw[ga,i5,l,p,q];rfl) λj h=>rfl));simp only[Ω,ax,aj,dn];exact⟨cG ⟨rfl,.cons (ab.refl _) (.cons (ab.row λj h=>aR h (dh _)) .nil)⟩,by simp,trivial,di t⟩
 ·cases o
def k0:E Md:=[.rd 9 123,.rd 9 123]
def re{c d:Wh->Wh}(h:∀w∈L,c w=d w):L.map c=L.map d:=ye h
def Jy(h:bC L=η):bo L=[]:=by
 unfold bC at h;unfold bo;cases e:iF L with
 |none=>rfl
 |some T=>rw[e]at h;cases h
def ace(h:bC L=ε):(bo L).length<=12:=by
 unfold bC at h;unfold bo;cases e:iF L with
 |none=>rw[e]at h;cases h
 |some T=>
  unfold iF at e;split at e
  ·split at e
   ·rename_i a
    cases e;rw[gp,aP]at a;exact aV a.1
   ·cases e
  ·cases e
def Co{sp tn la:Z}{mir:ξ}{L M:E Wh}(a:i5 tn la L=ε)(hM:L.map (ep sp tn la mir)=M)(b:bC M=ε):ga sp tn la mir L=bo M/\hP sp tn la mir L=ε:=by
 subst hM;refine⟨?_,?_⟩
 ·rw[ga,a];rfl
 ·rw[hP,a,b];rfl
def Cn{sp tn la:Z}{mir:ξ}{L:E Wh}(h:i5 tn la L=ε->bC (L.map (ep sp tn la mir))=η):ga sp tn la mir L=[]/\hP sp tn la mir L=η:=by
 cases a:i5 tn la L with
 |false=>exact⟨by rw[ga,a];rfl,by rw[hP,a];rfl⟩
 |true=>exact⟨by rw[ga,a];exact Jy (h a),by rw[hP,a,h a];rfl⟩
def ayO(x:Z):aa aY (aa aY x)=aa aY x:=Rp x
def U7(w:Wh):r_ w=ep (-1) 0 0 ε w:=by
 have a:(-1:Z)*w.s=0-w.s:=by omega
 have b:(aa aY ((0:Z)+aa aY (0*w.s))%24).toNat=0:=by rw[R4];rfl
 rw[r_,ep,a,b];rfl
def U9(a:aH A 0 23=ε){w:Wh}(d: -1000<=w.s/\w.s<=1000):sb A w=ep 1 A 0 η w:=by
 have a:=cd.1 a;have b:aa aY (1*w.s)=w.s:=by rw[xW,bz]
 have c:aa aY (A+aa aY (0*w.s))=A:=by rw[R4,bz (x:=0),ik,bz]
 rw[sb,ep,b,c];rfl
def U6(a:aH A 0 23=ε){w:Wh}(d: -1000<=w.s/\w.s<=1000):r9 A w=ep 1 0 A η w:=by
 have a:=cd.1 a;have b:aa aY (1*w.s)=w.s:=by rw[xW,bz]
 have c:aa aY (0+aa aY (A*w.s))=aa aY (A*w.s):=by rw[adE,ayO]
 rw[r9,ep,b,c];rfl
def I3:∀(is:E (χ O))(bs:E AB),(∀b∈bs,b.wr=η)->fS is bs=[]
 |[],[],_=>rfl
 |[],_::_,_=>by simp[fS]
 |i::is,[],_=>by cases i<;>simp[fS]
 |none::is,b::bs,h=>by simp only[fS];exact I3 is bs λx a=>h x (by simp[a])
 |some i::is,b::bs,h=>by
  have c:=I3 is bs λx a=>h x (by simp[a])
  have d:=h b (by simp);cases b with
  |row rw n s g t=>
   cases rw with
   |true=>cases d
   |false=>simp only[fS];exact c
  |cells e t=>cases d
  |gone=>simp only[fS];exact c
def Ge:∀{mds:E Md}{sas:E SA}{ps:E (O->E τ)},oT mds=η->∀b∈bJ mds sas ps,b.wr=η
 |[],[],ps,_,b,a=>by simp[bJ]at a
 | .val::c,.v x::r,ps,h,b,a=>Ge (mds:=c) (sas:=r) (ps:=ps) h b (by simpa only[bJ]using a)
 | .rd s t::c,.row m g::r,ps,h,b,a=>by
  simp only[bJ,dE]at a;rcases a with rfl|a
  ·rfl
  ·exact Ge (mds:=c) (sas:=r) (ps:=ps) h b a
 | .wr s t::c,_,ps,h,b,a=>by cases h
 |[],_::_,ps,_,b,a=>by simp[bJ]at a
 | .val::c,[],ps,_,b,a=>by simp[bJ]at a
 | .val::c,.row .. ::_,ps,_,b,a=>by simp[bJ]at a
 | .val::c,.own .. ::_,ps,_,b,a=>by simp[bJ]at a
 | .rd .. ::c,[],ps,_,b,a=>by simp[bJ]at a
 | .rd .. ::c,.v _::_,ps,_,b,a=>by simp[bJ]at a
 | .rd .. ::c,.own .. ::_,ps,_,b,a=>by simp[bJ]at a
structure UR where
 b:ξ
 T:E Wh
 aw:E ξ
def tj(mds:E Md)(U:E SA->χ UR):Spec:=λb H a=>
 match tf H mds b with
 |some c=>match U (c.map (·.sa))with
  |some u=>γ {val:=.af [.sl a 9 0 0 u.T.length (γ u.T.length),.v (.bool u.b)],rd:=(er mds c).filterMap id,put:=[],new:=[.row η u.T.length 9 (J (Y u.T)) 123],aw:=c.flatMap (·.ob)++u.aw}
  |none=>ζ
 |none=>ζ
def QS{mds:E Md}{W X:E SA->χ FR}{U:E SA->χ UR}(f:oT mds=η)(hY:ak P I (ai mds W))(hN:ak P I (ai mds X))(h:∀sas u,U sas=γ u->aJ u.aw=ε->Ψ (bJ mds sas []).length (bO mds sas).length=ε/\((u.b=ε/\∃ob,W sas=γ {val:=li u.T,new:=h_ u.T,aw:=ob}/\aJ ob=ε)\/(u.b=η/\u.T=[]/\∃ob,X sas=γ {val:=eP,aw:=ob}/\aJ ob=ε))):ak P I (tj mds U):=by
 refine⟨hY.1,λq H c δ ν r w y ho hv hr D n hsep s=>?_⟩;unfold tj at y;split at y
 case h_2=>cases y
 rename_i z G;split at y
 case h_2=>cases y
 rename_i u hu;simp only[aC]at y;subst y;have A:aJ (z.flatMap (·.ob))=ε/\aJ u.aw=ε:=by simpa[aJ,gM]using ho
 obtain⟨C,hc⟩:=h _ _ hu A.2;have t:fS (er mds z) (bJ mds (z.map (·.sa)) [])=[]:=I3 _ _ λb L=>Ge f b L
 rcases hc with⟨L,ob,M,N⟩|⟨L,hT,ob,M,N⟩
 ·have B:ai mds W q H c=γ {val:=.af [.sl c 9 0 0 u.T.length (γ u.T.length),.v (.bool ε)],rd:=(er mds z).filterMap id,put:=[],new:=h_ u.T,aw:=z.flatMap (·.ob)++ob}:=by
   unfold ai;rw[G];simp only[M];show cond _ _ _=_
   rw[f,C,t];rfl
  refine(hY.2 q H c _ ν r w B (by simpa[aJ,gM]using And.intro A.1 N) hv hr D n (λi o j b b' hp=>by cases hp) (s.call λx Q=>by first|exact Q|cases Q)).mono ?_;rintro e w' ⟨v,m,rfl,d⟩;refine⟨v,m,rfl,d.le,d.cg,by rw[L];exact d.val,λi b C=>(by cases C),λj b g=>?_,d.os,d.tape,d.output,d.size,d.block,d.fresh,d.apart⟩
  match j with
  |0=>
   simp only[kO,aC]at g;subst g;have:=d.new 0 _ rfl;rcases this with⟨R,_,_⟩|⟨k,l,t',fz,R,h2,_,h4,h5⟩
   ·cases R
   ·exact .inr ⟨k,l,t',fz,R,h2,λh=>(by cases h),h4,h5⟩
  |j+1=>simp at g
 ·have B:ai mds X q H c=γ {val:=eP,rd:=(er mds z).filterMap id,put:=[],new:=[],aw:=z.flatMap (·.ob)++ob}:=by
   unfold ai;rw[G];simp only[M];show cond _ _ _=_
   rw[f,C,t];rfl
  refine(hN.2 q H c _ ν r w B (by simpa[aJ,gM]using And.intro A.1 N) hv hr D (λj g=>aR g (dh _)) (λi o j b b' hp=>by cases hp) (s.call λx Q=>by first|exact Q|cases Q)).mono ?_;rintro e w' ⟨v,m,rfl,d⟩;have p:m c=ζ:=by
   have h0:ν c=ζ:=n 0 (oq);cases T:m c with
   |none=>rfl
   |some b=>have:=d.cg c h0 (by rw[T];simp);simp at this
  have hv0:VR m (.af [.sl c 9 0 0 0 (γ 0),.v (.bool η)]) v:=by
   have:=d.val;simp only[VR]at this⊢;obtain⟨l,M,N⟩:=this
   match l,N with
   |[a,b],⟨ha,hbb,_⟩=>exact⟨[a,b],M,⟨ζ,0,ha,λc' hc'=>by simpa using hc',aQ _,λhc=>aR hc (ol 0)⟩,hbb,trivial⟩
  refine⟨v,m,rfl,d.le,λi R h2=>?_,by rw[L,hT];exact hv0,λi b C=>(by cases C),λj b g=>?_,d.os,d.tape,d.output,d.size,d.block,λj b g T=>?_,λj j' b b' hne g S=>?_⟩
  ·have:=d.cg i R h2
   simp at this;omega
  ·match j with
   |0=>simp only[kO,aC]at g;subst g;rw[hT];exact .inl ⟨rfl,rfl,p⟩
   |j+1=>simp at g
  ·have g:j<1:=g
   have:j=0:=by omega
   subst this;rw[im,p]at T;cases T
  ·have g:j<1:=g
   have S:j'<1:=S;omega
def wy:E AB->E ξ
 |[]=>[]
 | .row η n _ _ _::l=>κ (0<n)::wy l
 |_::l=>wy l
def Wo:∀{H:E AB}{j n w:O}{g:O->E τ}{t:ae},aJ (wy H)=ε->H.getD j .gone=.row η n w g t->0<n
 |[],j,n,w,g,t,_,h=>by simp at h
 |b::H,0,n,w,g,t,a,h=>by simp only[Bn]at h;subst h;simp only[wy,Ω,aL]at a;exact a.1
 |b::H,j+1,n,w,g,t,a,h=>by
  simp only[J4]at h;refine Wo (H:=H) (j:=j) ?_ h;unfold wy at a;split at a
  ·rename_i e;cases e
  ·rename_i e;cases e;exact(Ω.1 a).2
  ·rename_i e;cases e;exact a
def Zt{a b:E ξ}:aJ (a++b)=ε↔aJ a=ε/\aJ b=ε:=by simp[aJ]
def ev(b:E ξ)(a:E AV->E AB->χ HR):Spec:=AD AB.live (λH o=>o++wy H) b a
def afI(b:aJ (wy S)=ε)(h:BR R i (S.getD i .gone) X)(c:(S.getD i .gone).live=ε):∃k,R i=γ k:=by
 cases a:S.getD i .gone with
 |cells m t=>rw[a]at h;obtain⟨k,l,e,_⟩:=h;exact⟨k,e⟩
 |row d n o g t=>
  rw[a]at h;rcases h with⟨f,p,_⟩|⟨k,l,q,r,e,_⟩
  ·subst f
   have:=Wo b a;omega
  ·exact⟨k,e⟩
 |gone=>rw[a]at c;cases c
def aug{fn:cb}{j:E ξ}{b:E AV->E AB->χ HR}(k:θ.funcs[I]?=γ fn)(m:fn.body.isSome=ε)(h:∀avs H g,b avs H=γ g->aJ g.aw=ε->∃(Γ:aG)(d:E AB)(Λ:O->χ Sum)(n:O),aK θ Γ/\Φ H d/\(∀c,fn.body=γ c->dk θ d.length Λ c)/\aE (ad θ Γ Λ n fn avs d (ag d.length)) (BQ g)):ak θ I (ev j b):=
 abE (λi=>⟨(Zt.1 i).1,λ_=>afI (Zt.1 i).2⟩) k m λavs H g o i=>by obtain⟨Γ,d,Λ,n,p,q,r,s⟩:=h avs H g o i;exact⟨Γ,d,Λ,n,p,q.imp,r,⟨kJ (λe l w ⟨a,t,u,v⟩=>⟨a,t,u,v.imp⟩) s.out⟩⟩
def auf{fn:cb}{g:E ξ}{a:E AV->E AB->χ HR}(i:θ.funcs[I]?=γ fn)(j:fn.body.isSome=ε)(h:∀avs H d,a avs H=γ d->aJ d.aw=ε->∃(Γ:aG)(b:E AB)(Λ:O->χ Sum)(n:O),aK θ Γ/\Φ H b/\(∀c,fn.body=γ c->dk θ b.length Λ c)/\aE (ad θ Γ Λ n fn avs b (ag b.length)) (LG d)):ak θ I (ev g a):=
 aug i j λavs H d k m=>by obtain⟨Γ,b,Λ,n,o,p,q,r⟩:=h avs H d k m;exact⟨Γ,b,Λ,n,o,p,q,⟨kJ (λe l v ⟨s,t⟩=>⟨_,s,λ_ _ _ _ _ u=>u,t⟩) r.out⟩⟩
def nZ{Γ:aG}(e:aK θ Γ){fn:cb}{g:E ξ}{a:E AV->E AB->χ HR}(i:θ.funcs[I]?=γ fn)(j:fn.body.isSome=ε)(h:∀avs H d,a avs H=γ d->aJ d.aw=ε->∃(b:E AB)(Λ:O->χ Sum)(n:O),Φ H b/\(∀c,fn.body=γ c->dk θ b.length Λ c)/\aE (ad θ Γ Λ n fn avs b (ag b.length)) (LG d)):ak θ I (ev g a):=
 auf i j λavs H d k l=>let⟨b,Λ,n,m,o,p⟩:=h avs H d k l;⟨Γ,b,Λ,n,e,m,o,p⟩
abbrev aS(b:ao):O->E τ:=λj=>[.int .u8 (b j)]
abbrev cK(l:O)(c:χ O)(p:Z)(m:O)(b:ao)(tr a:ae):E AB:=[.cells [.sl 1 1 0 0 l c,.v (ι p)] tr,.row η m 1 (aS b) a]
def axj(l:O)(c:χ O)(p:Z)(m:O)(b:ao)(tr k:ae)(n:Z):let a:=(↑l:Z);let d:=(0:Z);let j:= !κ (a=d);let g:=(1:Z);let f:=(aa .i64 (p+g) -g);let h:=[AB.cells [AV.sl 1 1 0 0 l c,vI (aa .i64 (p+g))] tr,AB.row η m 1 (aS b) k];let i:=(aa .i64 (aa .i64 (aa .i64 f*(7:Z))+(3:Z)));let e:=(aa .i64 f);let o:=(aa .i64 (aa .i64 (aa .i64 (aa .i64 (aa .i64 (b (0+aT (fk e a)))*(131:Z))+aa .i64 (aa .i64 (b (0+aT (fk i a)))*(1117:Z)))+aa .i64 (aa .i64 f*(29:Z)))+aa .i64 (aa .i64 (eh e a)*(53:Z))));ad θ g0 K 100 SH [.ptr 0 0 0 0,.v (ι n)] (cK l c p m b tr k) (ag 2)
 =bif κ (n<g)then rO [vI 0] h else bif a==d then rO [vI 0] h else bif κ (aa .i64 f<a)then Ξ [κ (d<=aa .i64 f),κ (aa .i64 f<a),κ (0+aT e<m),!κ (n=d)] (rO [vI (fk (aa .i64 (b (0+aT e))) n)] h)else Ξ [j,κ (d<=fk e a),κ (fk e a<a),κ (0+aT (fk e a)<m),j,κ (d<=fk i a),κ (fk i a<a),κ (0+aT (fk i a)<m),j,!κ (n=d)] (rO [vI (fk (aa .i64 (↑(BitVec.toNat (mB 64 o^^^mB 64 (aa .i64 (eh o (64:Z))))):Z)) n)] h):=by intros;kernel_rfl
def Yi:E τ->ξ
 |[.int .u8 x]=>aH x 0 255
 |_=>η
def acv:τ->Z
 | .int .u8 x=>x
 |_=>0
def bD(g:O->E τ):O->Z:=λj=>acv ((g j).getD 0 undef)
def okB(m:O)(g:O->E τ):ξ:=(dK m).all λj=>Yi (g j)
def mn(h:okB i p=ε){j:O}(b:j<i):p j=aS (bD p) j/\0<=bD p j/\bD p j<=255:=by
 have a:=bT.1 h j (by simpa using b);unfold Yi at a;unfold aS bD;split at a
 ·rename_i x e
  rw[e];have c:acv ([jc .u8 x].getD 0 undef)=x:=rfl;rw[c];unfold aH at a;simp only[aP,aL]at a;exact⟨rfl,a.1,a.2⟩
 ·cases a
def iw(b:ao):bD (aS b)=b:=rfl
def I1(l:O)(b:ao)(p:Z):Z:=
 W (W (W (W (W (b (0+(fk p l).toNat))*131)+W (W (b (0+(fk (W (W (p*7)+3)) l).toNat))*1117))+W (p*29))+W (W (eh p l)*53))
def PT(x:Z):Z:=W ((mB 64 x^^^mB 64 (W (eh x 64))).toNat)
def nV(l:O)(b:ao)(p n:Z):Z:=
 bif κ (n<1)then 0 else bif (l:Z)==0 then 0 else bif κ (p<l)then fk (W (b (0+p.toNat))) n else fk (PT (I1 l b p)) n
def a9(l:O)(b:ao)(p n:Z):Z:=if 0<=nV l b p n/\nV l b p n<n then nV l b p n else 0
def qd(l:O)(b:ao)(p n:Z):0<=a9 l b p n:=by unfold a9;split<;>omega
def mq(l:O)(b:ao)(p:Z){n:Z}(h:1<=n):a9 l b p n<n:=by unfold a9;split<;>omega
def arl(a:0<=A)(b:A<2^62):0<=PT A:=by
 unfold PT;have e:W (eh A 64)=A/64:=by rw[Bf a];exact fj
 rw[e,BitVec.toNat_xor,ay5,ay5];have:(A%(2^64:O)).toNat^^^ (A/64%(2^64:O)).toNat<2^62:=Nat.xor_lt_two_pow (by omega) (by omega);rw[fj];omega
def Jz{x:Z}{l:O}(h:0<=x)(a:l≠0):0<=fk x l/\fk x l<l:=by
 have:(0:Z)<l:=by omega
 exact⟨adD _ h,adC _ this⟩
def ark{l m:O}{p:Z}(f:∀j,j<m->0<=h j/\h j<=255)(r:l<=m)(a:l≠0)(c:0<=p)(s:p<=2^30):0<=I1 l h p/\I1 l h p<2^62:=by
 have t:=Jz c a;have i:W (W (p*7)+3)=p*7+3:=by rw[fj (x:=p*7) (by omega) (by omega),fj]
 have u:=Jz (x:=p*7+3) (by omega) a;have k:=f (0+(fk p l).toNat) (by omega);have n:=f (0+(fk (p*7+3) l).toNat) (by omega);have o:0<=eh p l:=Int.tdiv_nonneg c (by omega);have q:eh p l<=p:=by rw[Bf c];exact Int.ediv_le_self _ c
 unfold I1;rw[i];generalize h (0+(fk p l).toNat)=d at k;generalize h (0+(fk (p*7+3) l).toNat)=e at n;generalize eh p l=g at o q;rw[fj (x:=d) (by omega) (by omega),fj (x:=e) (by omega) (by omega),fj (x:=g) (by omega) (by omega),fj (x:=d*131) (by omega) (by omega),fj (x:=e*1117) (by omega) (by omega),fj (x:=g*53) (by omega) (by omega),fj (x:=p*29) (by omega) (by omega),fj (x:=d*131+e*1117) (by omega) (by omega),fj (x:=d*131+e*1117+p*29) (by omega) (by omega),fj];omega
def arj{l m:O}{p n:Z}(a:∀j,j<m->0<=h j/\h j<=255)(f:l<=m)(g:0<=p)(i:p<=2^30):a9 l h p n=nV l h p n:=by
 have:nV l h p n=0\/0<=nV l h p n/\nV l h p n<n:=by
  unfold nV;by_cases c:n<1
  ·rw[di c];exact .inl rfl
  ·rw[gN c,be]
   by_cases d:(l:Z)=0
   ·rw[fm.2 d];exact .inl rfl
   ·rw[cq.2 d,be]
    by_cases e:p<l
    ·rw[di e,a6]
     have k:=a (0+p.toNat) (by omega);rw[fj];exact .inr ⟨adD _ k.1,adC _ (by omega)⟩
    ·rw[gN e,be]
     have:=ark a f (by omega) g i;exact .inr ⟨adD _ (arl this.1 this.2),adC _ (by omega)⟩
 unfold a9;split
 ·rfl
 ·omega
def ab.trans'{a b c:AB}(d:ab a b)(e:ab b c):ab a c:=by
 cases a with
 |row rw n w g t=>obtain⟨p,q,rfl,i,k⟩:=d;obtain⟨l,m,rfl,f,h⟩:=e;exact⟨l,m,rfl,cF f i,λj o=>(k j (by omega)).trans (h j o)⟩
 |cells=>cases d;exact e
 |gone=>cases d;exact e
def yD(a:O->(O->Z)->Z->Z->Z):E AV->E AB->χ HR
 |[.ptr 0 0 0 0,.v (.int .i64 n)],[.cells [.sl 1 1 0 0 l c,.v (.int .i64 p)] b,.row η m 1 g d]=>γ {val:=.v (.int .i64 (a l (bD g) p n)),out:=[.cells [.sl 1 1 0 0 l c,.v (.int .i64 (p+1))] b,.row η m 1 g d],aw:=[okB m g,κ (l<=m),κ (0<=p),κ (p<=2^30)]}
 |_,_=>ζ
def aau{l m:O}{c:χ O}{p:Z}{tr f:ae}(n:Z)(k:∀j,j<m->0<=h j/\h j<=255)(o:l<=m)(i:0<=p)(q:p<=2^30):aE (ad θ g0 K 100 SH [.ptr 0 0 0 0,.v (ι n)] (cK l c p m h tr f) (ag 2)) (λ_ vs r=>vs=[.v (ι (a9 l h p n))]/\Φ r (cK l c (p+1) m h tr f)):=by
 have s:aa aY (p+1)=p+1:=bz;have t:aa aY (p+1-1)=p:=by rw[bz];omega
 rw[axj];simp only[s,t];have u:=arj (n:=n) k o i q;have a:∀x,nV l h p n=x->[AV.v (ι x)]=[AV.v (ι (a9 l h p n))]/\Φ (cK l c (p+1) m h tr f) (cK l c (p+1) m h tr f):=by intro x v;exact⟨by rw[u,v],Φ.refl _⟩
 by_cases d:n<1
 ·refine cv (di d) (F (a _ ?_))
  rw[nV,di d];rfl
 ·refine bA (gN d) ?_
  by_cases e:(l:Z)=0
  ·refine cv (fm.2 e) (F (a _ ?_))
   rw[nV,gN d,fm.2 e];rfl
  ·refine bA (cq.2 e) ?_
   by_cases g:p<l
   ·refine cv (di g) (aq ?_ (F (a _ ?_)))
    ·simp only[Ω,ax,aj,aL,g8,qy]
     omega
    ·rw[nV,gN d,cq.2 e,di g];rfl
   ·have w:aa aY (aa aY (p*7)+3)=p*7+3:=by rw[bz (x:=p*7),bz]
    have y:=Jz i (l:=l) (by omega);have z:=Jz (x:=p*7+3) (by omega) (l:=l) (by omega);refine bA (gN g) (aq ?_ (F (a _ ?_)))
    ·simp only[Ω,ax,aj,aL,g8,qy,w]
     omega
    ·rw[nV,gN d,cq.2 e,gN g];rfl
def tc{l m:O}{c:χ O}{p:Z}{tr a:ae}{g:O->E τ}(h:okB m g=ε):Φ [.cells [.sl 1 1 0 0 l c,.v (ι p)] tr,.row η m 1 g a] (cK l c p m (bD g) tr a):=.cons (ab.refl _) (.cons (ab.row λ_ b=>(mn h b).1) .nil)
def P4{l m:O}{c:χ O}{p:Z}{tr a:ae}{g:O->E τ}(h:okB m g=ε):Φ (cK l c p m (bD g) tr a) [.cells [.sl 1 1 0 0 l c,.v (ι p)] tr,.row η m 1 g a]:=.cons (ab.refl _) (.cons (ab.row λ_ b=>(mn h b).1.symm) .nil)
def Φ.trans':∀{H H' a:E AB},Φ H H'->Φ H' a->Φ H a
 |_,_,_,.nil,.nil=>.nil
 |_,_,_,.cons b c,.cons d e=>.cons (ab.trans' b d) (Φ.trans' c e)
def s5:ak θ 12 (ev [] (yD a9)):=by
 refine nZ ba aem rfl λh H t a d=>?_
 unfold yD at a;split at a
 ·rename_i n l c p i m g k
  cases a;simp only[Ω,aL]at d;obtain⟨b,o,q,r,_⟩:=d;refine⟨cK l c p m (bD g) i k,K,100,tc b,de _,⟨kJ (λe u v f=>?_) (aau n (λj s=>(mn b s).2) o q r).out⟩⟩;exact⟨f.1,f.2.trans' (P4 b)⟩
 ·cases a
def Ln(a:O->(O->Z)->Z->Z->Z)(N q:Z):E AV->E AB->χ HR
 |[.ptr 0 0 0 0,.v (.int .i64 n)],[.cells [.sl 1 1 0 0 l c,.v (.int .i64 p)] b,.row η m 1 g d]=>γ {val:=.v (.int .i64 (bif n==N then q else a l (bD g) p n)),out:=[.cells [.sl 1 1 0 0 l c,.v (.int .i64 (p+1))] b,.row η m 1 g d],aw:=[okB m g,κ (l<=m),κ (0<=p),κ (p<=2^30),bif n==N then κ (a l (bD g) p n=q)else ε]}
 |_,_=>ζ
def aqd(N q:Z):ak θ 12 (ev [] (Ln a9 N q)):=by
 refine nZ ba aem rfl λi H w a d=>?_
 unfold Ln at a;split at a
 ·rename_i n l c p k m g o
  cases a;simp only[Ω,aL]at d;obtain⟨b,r,s,t,f,_⟩:=d;refine⟨cK l c p m (bD g) k o,K,100,tc b,de _,⟨kJ (λe x y h=>?_) (aau n (λj u=>(mn b u).2) r s t).out⟩⟩;refine⟨h.1.trans ?_,h.2.trans' (P4 b)⟩;show[AV.v (ι (a9 l (bD g) p n))]=[AV.v (ι (bif n==N then q else a9 l (bD g) p n))]
  cases v:(n==N)with
  |false=>rfl
  |true=>rw[v,a6,aL]at f;rw[f];rfl
 ·cases a
section
def aoA{m:O}{b:O->Z}(h:∀j,j<m->0<=b j/\b j<=255):okB m (aS b)=ε:=bT.2 λj a=>by
 have:=h j (by simpa using a);show aH (b j) 0 255=ε
 exact cd.2 this
section
variable {H:Type} {enc:ae×τ->H} {W:ψ}
def afP(n:O)(cs:E τ)(x:l6 H×E yg)(_:cs.length=1)(h:DataW.trod enc θ W 0 (λ_=>ε) ε n 5 cs=γ x):∃f:O->Z,(0<=f 0/\f 0<=255)/\cs=[.int .u8 (f 0)]:=by obtain⟨k,e,_,a⟩:=DataW.trod_int underlying5 h;unfold Lit.wf at a;rw[aP,aL,aL]at a;exact⟨λ_=>k,a,e⟩
end
def Mc{f:dm}{fn:cb}{spec:ChangeSpec}(hf:θ.funcs[f]?=γ fn)(hp:fn.params= #[22])(hr:fn.resultTypes= #[4])(c:spec.vars=[])(a:∀(H:Type)(d:l6 H),spec.fn H [d]={results:=[.lit (.bool ε)],args:=[d]})(B:∀(m:O)(b:ao),m<=9223372036854775807->okB m (aS b)=ε->∃Γ n Λ,aK θ Γ/\(∀cc,fn.body=γ cc->dk θ 1 Λ cc)/\aE (ad θ Γ Λ n fn [.sl 0 1 0 0 m ζ] [.row η m 1 (aS b) 5] (ag 1)) vX)(H:Type)(enc:ae×τ->H)(W:ψ)(base:O)(args:Array τ)(ds gs:E (l6 H))(h:E yg)(i:∀(j:O) t v,fn.params[j]?=γ t->args[j]?=γ v->TB θ W .any base t v)(hW:adl enc θ fn.params.toList spec.vars η W args.toList ds gs h)(u:a4 (λk=>W.heap.size<=k) W:=by intro x l;simp[vf]at l):Calls θ f args W λe W'=>∃v,e=.returned v/\spec.post enc θ fn η ε η η W args v W':=by
 have y:=hW;obtain⟨p,q,z,hV,rfl,hfz,hnd⟩:=hW;have C:adk enc θ W 0 (λ_=>ε) ε fn.params.toList args.toList ds p:=z;rw[hp]at C i;rw[c]at hV;obtain⟨D,vs0,d0,ds0,p0,q0,G,rfl,rfl,h0,r0⟩:=trodAll_cons C;obtain⟨rfl,rfl,rfl⟩:=trodAll_nil r0;obtain rfl:args= #[D]:=by cases args;simp_all
 obtain⟨rfl,rfl⟩:=trodVars_none hV;clear z C r0;obtain⟨m,ν,g,hm,L,M,N,A⟩:=afn (H:=H) underlying22 (s:=1) (by kernel_rfl) Nat.one_pos (i 0 22 D rfl rfl) h0 (λf=>[.int .u8 (f 0)]) (λf=>0<=f 0/\f 0<=255) (λf=>⟨rfl,by simp[Value.oneCell']⟩) afP 5 u;obtain⟨Γ,n,Λ,R,T,o⟩:=B m (λj=>g j 0) hm (aoA L);have r:=ayW R (n:=n) (vals:=[D]) (w:=W) hf (Λ:=Λ) (H:=[.row η m 1 (aS λj=>g j 0) 5]) T o (by simp only[aB,aj];exact M) N A;refine r.mono λe W' ⟨he,hb⟩=>?_
 subst he;have U:∀x∈p0,x.block<W.heap.size:=λx l=>by simpa using y.lt x (by simpa using l)
 refine⟨_,rfl,ars (pa:=p0) (pv:=[]) y ?_ ?_ ?_ (by simp) hb ?_⟩
 ·intro b sp hd
  rw[hr];simp only[vp,a];exact trodAll_cons_mk (shut_bool underlying4 _) trodAll_mk0
 ·intro sp X
  rw[hp];simp only[vp,a];refine trodAll_mk1 (WideElems.Trod_stays laidOut (by kernel_rfl) (aV (by kernel_rfl)) h0 (λx l=>hb.same (U x l)) λx l=>X x (by simpa using l))
 ·intro sp _
  rw[c];simp only[vp,a];rfl
 ·exact ok_one hr rfl (okWide_bool_mk underlying4 _)
end
def ana:nj:=⟨λ|171=>18|243=>47|246=>83|283=>149|284=>150|285=>151|286=>152|129=>229|317=>228|318=>230|319=>231|320=>232|337=>268|338=>269|n=>n,λ|3=>3|9=>9|2=>2|4=>4|171=>162|0=>0|53=>109|37=>22|5=>5|173=>165|212=>227|51=>105|20=>20|213=>228|46=>191|232=>294|233=>295|n=>n,λ|17=>2|18=>6|19=>7|n=>n⟩
def am':Go.Proofs.LaysM.n171 θ ana:=by repeat' (first|kernel_rfl|(intros;kernel_rfl)|decide|constructor)
def bE(n:Z):ρ:=⟨(bg n).toArray⟩
def VT:E τ->χ (τ×E ξ)
 |[.int .i64 n]=>γ (.string (bE n),[κ (-9223372036854775808<=n),κ (n<=9223372036854775807)])
 |_=>ζ
variable {B:O->Prop}
def ab5(h:a4 B X):R7 θ X "internal/strconv.uint64pow10" .u64 Lib.pow10Tab:=by
 obtain⟨_,l,t,b,a,rfl⟩:=h _ jA;have e:θ.globalNamed "internal/strconv.uint64pow10" =γ 2:=by kernel_rfl
 simp only[R7,World.var?,e,Kf,a]
def Wi(w:ψ)(k:O)(os:Array Obj):Fr (λ_=>jy) w (Kj (w.drewN k) os):=by refine⟨rfl,rfl,rfl,by simp[Kj],λi a _=>?_⟩;simp only[Kj,World.heap_drewN];rw[ac6 (by simpa using a)]
def ZR:ak θ 18 (aW VT):=by
 refine n4 (λargs w=>enters 18 f18 func18 rfl args w) λh x i a b w c=>?_
 unfold VT at a;split at a
 ·rename_i n
  simp only[aC,cI]at a;obtain⟨rfl,rfl⟩:=a;obtain⟨d,f⟩:=D2 b;refine(Any.strconv_Itoa am' n (aV d) (aV f) w (ab5 c)).mono ?_;rintro e j ⟨rfl,k,g,rfl⟩;exact⟨rfl,Wi w k g⟩
 ·cases a
def oR(a:Z->ρ)(p:Z->ξ):E τ->χ (τ×E ξ)
 |[.int .i64 n]=>γ (.string (a n),[p n])
 |_=>ζ
def CM(a:Z->ρ)(p:Z->ξ):aG:=ext g0 21 (aW (oR a p))
def awJ(b:Z->ρ)(p:Z->ξ)(n:Z):let d:=(aa .i64 ((48:Z)+fk n (10:Z)));let e:=(aa .i64 (eh n (10:Z)));let f:=(aa .i64 ((48:Z)+n));let k:=(vh [tq (aa .u8 d)]);let c:=(0:Z);let g:=(56:υ);let h:=(55:υ);let i:=(50:υ);let a:=(51:υ);let j:=(aa .i64 (c-n));ad θ (CM b p) K 100 f21 [.v (ι n)] [] dR
 =bif κ (n<(-9223372036854775807:Z))then rO [AV.v (.string (ah (ap [(45:υ),(57:υ),i,i,a,a,h,i,(48:υ),a,(54:υ),g,(53:υ),(52:υ),h,h,(53:υ),g,(48:υ),g])))] []else bif κ (n<c)then Ξ [p j,Δ (1+ay (b j)) 9223372036854775807] (rO [AV.v (.string (aI (ah (ap [(45:υ)])) (b j)))] [])else bif κ (n<(10:Z))then Ξ [κ (c<=aa .u8 f),κ (aa .u8 f<(256:Z))] (rO [AV.v (.string (vh [tq (aa .u8 f)]))] [])else Ξ [p e,κ (c<=aa .u8 d),κ (aa .u8 d<(256:Z)),Δ (ay (b e)+ay k) 9223372036854775807] (rO [AV.v (.string (aI (b e) k))] []):=by intros;kernel_rfl
def IC:∀(k u:O),u<10^(k+1)->Lib.nDigits u<=k+1
 |0,u,h=>by rw[Lib.nDigits_small (by simpa using h)];omega
 |k+1,u,h=>by
  by_cases a:u<10
  ·rw[Lib.nDigits_small a];omega
  ·rw[Lib.nDigits_big a]
   have:=IC k (u/10) (by rw[Ke]at h;omega);omega
def nD{n:Z}(a: -10000000000000000000<n)(b:n<10000000000000000000):(bE n).size<=20:=by
 simp only[bE,ay,Fs,bg];split
 ·rw[bZ,JY]
  have:=IC 18 n.natAbs (by omega);omega
 ·rw[JY]
  have:=IC 18 n.toNat (by omega);omega
def ahQ(h:A<0):bE A=aI ⟨⟨[45]⟩⟩ (bE (-A)):=by
 have a:bg A=45::gL A.natAbs:=by rw[bg,aU h]
 have b:bg (-A)=gL A.natAbs:=by rw[bg,gc,show(-A).toNat=A.natAbs by omega]
 simp only[bE,aI,a,b];exact(ade [45] (gL A.natAbs)).symm
def acu(a:0<=A)(b:A<10):tq (pu.wrap (48+A))=ns (48+A.toNat):=by
 have:pu.wrap (48+A)=48+A:=by rw[Fh];omega
 rw[this,tq]
 congr 1
 omega
def ahR(a:0<=A)(b:A<10):bE A=vh [tq (pu.wrap (48+A))]:=by rw[acu a b,bE,vh,bg,gc,Lib.decDigits_one (by omega)]
def ahP{n:Z}(e:10<=n):bE n=aI (bE (n.tdiv 10)) (vh [tq (pu.wrap (48+n.tmod 10))]):=by
 have a:n.tdiv 10=n/10:=Bf (by omega);have b:n.tmod 10=n%10:=xX (by omega);rw[a,b,acu (by omega) (by omega)];have c:bg n=gL (n/10).toNat++[ns (48+(n%10).toNat)]:=by rw[bg,gc,gL,dif_neg (by omega),show n.toNat/10=(n/10).toNat by omega,show n.toNat%10=(n%10).toNat by omega]
 have d:bg (n/10)=gL (n/10).toNat:=by rw[bg,gc]
 simp only[bE,aI,vh,c,d];exact(ade _ _).symm
def Mr{p q:Z->ξ}(i:ak θ 21 (aW (oR bE p)))(r:∀n,q n=ε-> -9223372036854775807<=n/\n<=9223372036854775807)(s:∀n,q n=ε->n<0->p (-n)=ε)(t:∀n,q n=ε->10<=n->p (n.tdiv 10)=ε):ak θ 21 (aW (oR bE q)):=by
 refine et (n:=100) (az ba i) func21 rfl λw x y d u=>?_
 unfold oR at d;split at d
 ·rename_i n
  simp only[aC,cI]at d;obtain⟨rfl,rfl⟩:=d;have j:q n=ε:=by simpa[aJ]using u
  obtain⟨z,A⟩:=r n j;have e:=awJ bE p n;unfold CM at e;simp only[eG,kQ];rw[e];have g:∀{x:Z},-9223372036854775808<=x->x<=9223372036854775807->aa aY x=x:=λa b=>bz ⟨a,b⟩
  have m:∀{x:Z},0<=x->x<10->0<=aa pu (48+x)/\aa pu (48+x)<256:=λ_ _=>by rw[Fh];omega
  suffices h:aE _ (oI (.string (bE n)))from⟨h.out⟩
  refine aD (λo=>?_) λ_=>aD (λc=>?_) λc=>aD (λf=>?_) λf=>?_
  ·have o:=aV o
   omega
  ·have c:=aV c
   rw[g (by omega) (by omega),adF];have v:=nD (n:= -n) (by omega) (by omega);refine aq (by simp only[Ω,ax,aj,bl];exact⟨s n j c,by omega⟩) (F ⟨_,rfl,?_⟩);rw[ahQ c];rfl
  ·have c:=cu c
   have f:=aV f;rw[g (by omega) (by omega)];obtain⟨k,l⟩:=m (x:=n) (by omega) (by omega);refine aq (by simp only[Ω,ax,aj,aL];exact⟨k,l⟩) (F ⟨_,rfl,?_⟩);rw[ahR (by omega) (by omega)];rfl
  ·have c:=cu c
   have f:=cu f;have B:n.tdiv 10=n/10:=Bf (by omega);have C:n.tmod 10=n%10:=xX (by omega);have i:=t n j (by omega);rw[g (x:=n.tdiv 10) (by omega) (by omega),g (x:=48+n.tmod 10) (by omega) (by omega)];obtain⟨k,l⟩:=m (x:=n.tmod 10) (by omega) (by omega);have v:=nD (n:=n.tdiv 10) (by omega) (by omega);have D:(vh [tq (aa pu (48+n.tmod 10))]).size=1:=rfl;refine aq (by simp only[Ω,ax,aj,aL,bl];exact⟨i,k,l,by omega⟩) (F ⟨_,rfl,?_⟩);rw[ahP (n:=n) (by omega)];rfl
 ·cases d
def sI(k:O)(n:Z):ξ:=κ (0<=n/\n<10^k/\n<=9223372036854775807)
def ahS:ak θ 21 (aW (oR bE λ_=>η)):=by
 refine n4 (λargs w=>enters 21 f21 func21 rfl args w) λc x d a b=>?_
 unfold oR at a;split at a
 ·simp only[aC,cI]at a
  obtain⟨rfl,rfl⟩:=a;simp[aJ]at b
 ·cases a
def Vv:∀k:O,ak θ 21 (aW (oR bE (sI (k+1))))
 |0=>Mr ahS (λn h=>by simp only[sI,aL]at h;omega) (λn h=>by simp only[sI,aL]at h;omega) (λn h=>by simp only[sI,aL]at h;omega)
 |k+1=>Mr (Vv k) (λn h=>by simp only[sI,aL]at h;omega) (λn h=>by simp only[sI,aL]at h;omega) (λn h a=>by simp only[sI,aL]at h⊢;rw[R3]at h;have b:n.tdiv 10=n/10:=Bf (by omega);omega)
def z8:ak θ 21 (aW (oR bE λn=>κ (-9223372036854775807<=n/\n<=9223372036854775807))):=
 Mr (Vv 19) (λn h=>by simpa using h) (λn h a=>by simp only[sI,aL]at h⊢;omega) (λn h a=>by simp only[sI,aL]at h⊢;have b:n.tdiv 10=n/10:=Bf (by omega);omega)
def YG:nj:=⟨λ|156=>130|165=>212|166=>16|169=>19|240=>26|241=>260|276=>57|277=>290|n=>n,λ|31=>38|9=>9|3=>3|4=>4|0=>0|20=>20|72=>37|76=>42|70=>35|37=>22|75=>41|127=>62|164=>72|5=>5|80=>45|n=>n,λ|n=>n⟩
def C_:Go.Proofs.Lays.n156 θ YG:=by repeat' (first|kernel_rfl|(intros;kernel_rfl)|decide|constructor)
def Cu:Builder.Extra θ YG:=by repeat' (first|kernel_rfl|(intros;kernel_rfl)|decide|constructor)
def RH.quiet{H:O->AB}{w w':ψ}(h:RH B R H w)(f:Fr (λ_=>jy) w w'):RH B R H w':=
 ⟨λi=>(h.br i).of_block λk a _=>f.block _ (h.lt i k a) λx=>x,h.sep,h.own,λi b c=>eN (h.lt i b c) f.size,h.eL.block λk a _=>f.block k a λx=>x⟩
def fU:E τ->ρ
 |[.string s]=>s
 |_=>⟨#[]⟩
def zI:E τ->ξ
 |[.string _]=>ε
 |_=>η
def mO(m:O)(g:O->E τ):ξ:=(dK m).all λj=>zI (g j)
def strs(g:O->E τ)(m:O):E ρ:=(dK m).map λj=>fU (g j)
def nP(xs:E ρ)(a:ρ):ρ:=⟨(iW (xs.map (·.data.toList)) a.data.toList).toArray⟩
def yS(h:mO i p=ε){j:O}(a:j<i):p j=[.string (fU (p j))]:=by
 have:=bT.1 h j (np.2 a)
 match b:p j,this with
 |[.string s],_=>rfl
def La(b:E ρ->ρ->ρ):E SA->χ FR
 |[.row m g,.v (.string a)]=>γ {val:=.v (.string (b (strs g m) a)),aw:=[mO m g,Δ m 1048576,Δ (b (strs g m) a).size 140737488355328]}
 |_=>ζ
def apR:ak θ 130 (ai [.rd 1 9,.val] (La nP)):=by
 refine nc enters func130 rfl λQ X k L=>?_
 unfold La at k;split at k
 ·rename_i m g a
  simp only[aC]at k;subst k;simp only[Ω,ax,aj,bl]at L;obtain⟨R,hm,S⟩:=L;refine⟨_,Φ.refl _,λM n w v hM t z o=>?_⟩;have q:∀d,Fr (λ_=>jy) w d->jR (dX (bJ [Md.rd 1 9,.val] [SA.row m g,.v (.string a)] []) {val:=.v (.string (nP (strs g m) a)),aw:=[mO m g,Δ m 1048576,Δ (nP (strs g m) a).size 140737488355328]}) M v w (.returned (.string (nP (strs g m) a))) d:=λd f=>⟨_,_,bO [Md.rd 1 9,.val] [SA.row m g,.v (.string a)],v,rfl,⟨_,rfl,rfl,Φ.refl _⟩,by simp only[VR],z.quiet f,f.mono λ_ _ h=>h.elim,Le.refl _,o⟩
  match n,t with
  |[x,y],t=>
   simp only[ir,aB,VR,aj]at t;obtain⟨⟨p,c,rfl,_,hc,T⟩,rfl⟩:=t;have N:=z.br 0;simp only[bO,Bn]at N;have i:m=0->Calls θ 130 #[.slice p m c,.string a] w (jR (dX (bJ [Md.rd 1 9,.val] [SA.row m g,.v (.string a)] []) {val:=.v (.string (nP (strs g m) a)),aw:=[mO m g,Δ m 1048576,Δ (nP (strs g m) a).size 140737488355328]}) M v w):=by rintro rfl;refine(Any.strings_Join_none C_ Cu p c a w).mono ?_;rintro e d ⟨rfl,rfl⟩;exact q d (Fr.refl _ _)
   by_cases P:m=0
   ·exact i P
   ·obtain⟨b,r,C⟩:=T (by omega)
    subst C;rcases N with⟨_,u,_⟩|⟨b',l,t',fz,u,U,_,hn,W⟩
    ·exact aR u P
    ·rw[r]at u
     cases u;have s:(strs g m).length=m:=by simp[strs]
     have:=Any.strings_Join C_ Cu b.n b.o c (strs g m) a w (λj x D=>?_) (z.lt 0 b r) (by omega) (by omega) (by simpa[nP,ay]using S)
     ·rw[s]at this
      refine this.mono ?_;rintro e d ⟨rfl,G⟩;exact q d (Below.fr G)
     ·have H:j<m:=by have:=(fY.1 D).1;omega
      have I:x=fU (g j):=by simp only[strs,Sf,List.getElem?_range H,Bw,aC]at D;exact D.symm
      rw[I,oL U];have:=(W j H).2 0 (by omega);simp only[rS,im]at this;rw[this,yS R H];rfl
 ·cases k
def ajV(a:Z->ρ):E τ->χ (τ×E ξ)
 |[.int .i64 n]=>γ (.string (a n),[κ (-9223372036854775808<=n),κ (n<=9223372036854775807)])
 |_=>ζ
def H8(a:Z->ρ)(b:E ρ->ρ->ρ):aG:=ext (ext g0 18 (aW (ajV a))) 130 (ai [.rd 1 9,.val] (La b))
def eB(ws:E ρ)(j:O):ρ:=ws.getD j ⟨#[]⟩
def eF(ws:E ρ):O->E τ:=λj=>[.string (eB ws j)]
abbrev DL:Ex->E O:=cj [3,15,16,17] [3] [2]
abbrev uz(m:O)(f:Θ)(t:ae)(n:O)(ws:E ρ):E AB:=[.row η m 9 (J f) t,.row ε n 1 (eF ws) 9]
abbrev ER(m n i:O):E AV:=[.own 1 n,.sl 0 9 0 0 m ζ,.v (ι m),.v (ι i)]
def as4(b:Z->ρ)(h:E ρ->ρ->ρ)(m:O)(f:Θ)(t:ae)(n:O)(ws:E ρ)(i:O):let c:=(-9223372036854775808:Z);let d:=(9223372036854775807:Z);let e:=(↑i:Z);let j:=AB.row η m 9 (J f) t;let a:=(0+aT e);let k:=(aI (b (f a 0)) (ah (ap [(58:υ)])));let g:=(h (strs (λq=>[b9 (bif ω q 7 then bif ω q 6 then bif ω q 5 then bif ω q 4 then bif ω q 3 then bif ω q 2 then bif ω q 1 then bif ω q 0 then ah (ap [])else b (f a 1)else b (f a 2)else b (f a 3)else b (f a 4)else b (f a 5)else b (f a 6)else b (f a 7)else b (f a 8))]) 8) (ah (ap [(44:υ)])));a0 θ (H8 b h) 200 K (a5 0 SI) (ar 0 47 ((DL .normal).zip (ER m n i))) (uz m f t n ws) (cw 47 DL 1)
 =bif κ (e<(m:Z))then Ξ [κ (e<(m:Z)),κ (0+aT e<m),κ (c<=f a 1),κ (f a 1<=d),κ (c<=f a 2),κ (f a 2<=d),κ (c<=f a 3),κ (f a 3<=d),κ (c<=f a 4),κ (f a 4<=d),κ (c<=f a 5),κ (f a 5<=d),κ (c<=f a 6),κ (f a 6<=d),κ (c<=f a 7),κ (f a 7<=d),κ (c<=f a 8),κ (f a 8<=d),κ (c<=f a 0),κ (f a 0<=d),Δ (ay (b (f a 0))+1) 9223372036854775807,Δ (ay g) 140737488355328,Δ (ay k+ay g) 9223372036854775807,Δ n n,Δ (n+1) 549755813888] (am.out .normal [AV.own 1 (n+1),AV.sl 0 9 0 0 m ζ,vI (m:Z),vI (aa .i64 (e+(1:Z)))] [j,AB.row ε (n+1) 1 (λq=>[b9 (bif ω q n then eB ws q else aI k g)]) 9])else am.out (Ex.exit 0) [AV.own 1 n] [j,AB.row ε n 1 (eF ws) 9]:=by intros;kernel_rfl
noncomputable abbrev ON(m:O)(f:Θ)(t:ae)(ws:E ρ):O->χ Sum:=bX 0 (bm 47 (DL .normal) 1 (ER m 0 0) (uz m f t 0 []) (λa=>a .normal (ar 0 47 [(3,.own 1 m)]) (uz m f t m ws)))
def axV(d:Z->ρ)(b:E ρ->ρ->ρ)(m:O)(f:Θ)(t:ae)(ws:E ρ):let c:=(b (strs (eF ws) m) (ah (ap [(32:υ)])));let a:=AB.row η m 9 (J f) t;ad θ (H8 d b) (ON m f t ws) 200 SI [.sl 0 9 0 0 m ζ] [.row η m 9 (J f) t] (ag 1)
 =bif (m:Z)==(0:Z)then rO [AV.v (.string (ah (ap [(45:υ)])))] [a]else Ξ [κ ((m:Z)<=(1099511627776:Z)),cy ([AV.own 1 0,AV.sl 0 9 0 0 m ζ,vI (m:Z),vI 0]=ER m 0 0/\Φ [a,AB.row ε 0 1 (λ_=>[b9 (ah (ap []))]) 9] (uz m f t 0 [])),Δ m m,mO m (eF ws),Δ m 1048576,Δ (ay c) 140737488355328] (rO [AV.v (.string c)] [a]):=by intros;kernel_rfl
def axI(a:Z->ρ)(p:Z->ξ)(c d e f g h i j k:Z):let b:=(ah (ap [(44:υ)]));let s:=(aI (a c) (ah (ap [(58:υ)])));let l:=(aI s (a d));let m:=(aI (aI l b) (a e));let t:=(aI (aI m b) (a f));let u:=(aI t b);let n:=(aI u (a g));let o:=(aI (aI n b) (a h));let q:=(aI (aI o b) (a i));let r:=(aI (aI q b) (a j));ad θ (CM a p) K 200 f179 [.v (.agg ⟨[ι c,ι d,ι e,ι f,ι g,ι h,ι i,ι j,ι k]⟩)] [] dR
 =Ξ [p c,Δ (ay (a c)+1) 9223372036854775807,p d,Δ (ay s+ay (a d)) 9223372036854775807,Δ (ay l+1) 9223372036854775807,p e,Δ (ay (aI l b)+ay (a e)) 9223372036854775807,Δ (ay m+1) 9223372036854775807,p f,Δ (ay (aI m b)+ay (a f)) 9223372036854775807,Δ (ay t+1) 9223372036854775807,p g,Δ (ay u+ay (a g)) 9223372036854775807,Δ (ay n+1) 9223372036854775807,p h,Δ (ay (aI n b)+ay (a h)) 9223372036854775807,Δ (ay o+1) 9223372036854775807,p i,Δ (ay (aI o b)+ay (a i)) 9223372036854775807,Δ (ay q+1) 9223372036854775807,p j,Δ (ay (aI q b)+ay (a j)) 9223372036854775807,Δ (ay r+1) 9223372036854775807,p k,Δ (ay (aI r b)+ay (a k)) 9223372036854775807] (rO [AV.v (.string (aI (aI r b) (a k)))] []):=by intros;kernel_rfl
def MQ(j:Wh->ρ)(e7:Wh->ξ):E τ->χ (τ×E ξ)
 |[.agg ⟨[.int .i64 a,.int .i64 b,.int .i64 c,.int .i64 d,.int .i64 e,.int .i64 f,.int .i64 g,.int .i64 h,.int .i64 i]⟩]=>γ (.string (j ⟨a,⟨b,c,d,e,f,g,h,i⟩⟩),[e7 ⟨a,⟨b,c,d,e,f,g,h,i⟩⟩])
 |_=>ζ
def HX(a:Wh->ρ)(e7:Wh->ξ):aG:=ext g0 179 (aW (MQ a e7))
abbrev DI:Ex->E O:=cj [0,3,4] [3] [2]
abbrev wG(m:O)(f:Θ)(t:ae):E AB:=[.row η m 9 (J f) t]
abbrev EP(m:O)(s:ρ)(i:O):E AV:=[.sl 0 9 0 0 m ζ,.v (.string s),.v (ι i)]
def asX(d:Wh->ρ)(e7:Wh->ξ)(m:O)(f:Θ)(t:ae)(s:ρ)(i:O):let b:=(↑i:Z);let e:=[AB.row η m 9 (J f) t];let g:=(aI s (ah (ap [(32:υ)])));let h:=vI (aa .i64 (b+(1:Z)));let j:=κ (0+aT b<m);let k:=κ (b<(m:Z));let l:=AV.sl 0 9 0 0 m ζ;let a:=(0+aT b);let c:=(Wh.mk (f a 0) (Cy.mk (f a 1) (f a 2) (f a 3) (f a 4) (f a 5) (f a 6) (f a 7) (f a 8)));a0 θ (HX d e7) 100 K (a5 0 SF) (ar 0 26 ((DI .normal).zip (EP m s i))) (wG m f t) (cw 26 DI 1)
 =bif κ (b<(m:Z))then bif κ (b> (0:Z))then Ξ [Δ (ay s+1) 9223372036854775807,k,j,e7 c,Δ (ay g+ay (d c)) 9223372036854775807] (am.out .normal [l,AV.v (.string (aI g (d c))),h] e)else Ξ [k,j,e7 c,Δ (ay s+ay (d c)) 9223372036854775807] (am.out .normal [l,AV.v (.string (aI s (d c))),h] e)else am.out (Ex.exit 0) [AV.v (.string s)] e:=by intros;kernel_rfl
noncomputable abbrev OJ(m:O)(f:Θ)(t:ae)(s:ρ):O->χ Sum:=bX 0 (bm 26 (DI .normal) 1 (EP m ⟨#[]⟩ 0) (wG m f t) (λa=>a .normal (ar 0 26 [(3,.v (.string s))]) (wG m f t)))
def axJ(c:Wh->ρ)(e7:Wh->ξ)(m:O)(f:Θ)(t:ae)(s:ρ):let a:=[AB.row η m 9 (J f) t];let b:=(ah (ap []));ad θ (HX c e7) (OJ m f t s) 100 SF [.sl 0 9 0 0 m ζ] [.row η m 9 (J f) t] (ag 1)
 =bif (m:Z)==(0:Z)then rO [AV.v (.string (ah (ap [(45:υ)])))] a else Ξ [cy ([AV.sl 0 9 0 0 m ζ,AV.v (.string b),vI 0]=EP m b 0/\Φ a (wG m f t))] (rO [AV.v (.string s)] a):=by intros;kernel_rfl
def ng(w:Wh):E υ:=bg w.s++58::iW [bg w.r.c0,bg w.r.c1,bg w.r.c2,bg w.r.c3,bg w.r.c4,bg w.r.c5,bg w.r.c6,bg w.r.c7] [44]
def cU(w:Wh):ρ:=⟨(ng w).toArray⟩
def l4(L:E Wh):E υ:=iW (L.map ng) [32]
def dF(L:E Wh):ρ:=bif L.isEmpty then⟨#[45]⟩else⟨(l4 L).toArray⟩
def e7(w:Wh):ξ:=aH w.s (-1000) 1000&&bt w.r
def wa(x y:E υ):aI ⟨x.toArray⟩ ⟨y.toArray⟩=⟨(x++y).toArray⟩:=ade x y
def gO(x y:ρ):(aI x y).size=x.size+y.size:=by simp[aI]
def sS(x:E υ):(ah x.toArray).size=x.length:=by simp[ay]
def aqX{w:Wh}(h:e7 w=ε):(-1000<=w.s/\w.s<=1000)/\∀k,k<8-> -1000000<=w.r.f k/\w.r.f k<=1000000:=by simp only[e7,aP]at h;exact⟨cd.1 h.1,xy.1 h.2⟩
def D8{w:Wh}(h:e7 w=ε):∀x∈ [w.s,w.r.c0,w.r.c1,w.r.c2,w.r.c3,w.r.c4,w.r.c5,w.r.c6,w.r.c7],-1000000<=x/\x<=1000000:=by
 obtain⟨c,a⟩:=aqX h;intro x b;simp only[dE,iX,oC]at b;rcases b with rfl|rfl|rfl|rfl|rfl|rfl|rfl|rfl|rfl
 ·omega
 ·exact a 0 (by omega)
 ·exact a 1 (by omega)
 ·exact a 2 (by omega)
 ·exact a 3 (by omega)
 ·exact a 4 (by omega)
 ·exact a 5 (by omega)
 ·exact a 6 (by omega)
 ·exact a 7 (by omega)
def Pv(h:aO L=ε):∀w∈L,e7 w=ε:=λw a=>by simp only[aO,aP,bT]at h;rw[e7,aP];exact h.2 w a
def sM(a: -1000000<=A)(b:A<=1000000):(bg A).length<=20:=by
 have:=nD (n:=A) (by omega) (by omega)
 rwa [bE,sS]at this
def aux(a b c d e f g h:ρ):strs (λq=>[b9 (bif ω q 7 then bif ω q 6 then bif ω q 5 then bif ω q 4 then bif ω q 3 then bif ω q 2 then bif ω q 1 then bif ω q 0 then ah (ap [])else a else b else c else d else e else f else g else h)]) 8=[a,b,c,d,e,f,g,h]:=rfl
def ac3(a c d e f g h i j:Z):aI (aI (bE a) (ah (ap [58]))) (nP [bE c,bE d,bE e,bE f,bE g,bE h,bE i,bE j] (ah (ap [44])))=cU ⟨a,⟨c,d,e,f,g,h,i,j⟩⟩:=by
 show aI (aI ⟨(bg a).toArray⟩ ⟨[58].toArray⟩) ⟨(iW ([⟨(bg c).toArray⟩,⟨(bg d).toArray⟩,⟨(bg e).toArray⟩,⟨(bg f).toArray⟩,⟨(bg g).toArray⟩,⟨(bg h).toArray⟩,⟨(bg i).toArray⟩,⟨(bg j).toArray⟩].map λb:ρ=>b.data.toList) [44]).toArray⟩=_
 rw[wa,wa,cU,ng];simp
def JK{w:Wh}(h:e7 w=ε):(cU w).size<=200:=by have a:=D8 h;simp only[J2,iX,Kv,Ky,aj]at a;obtain⟨⟨b,c⟩,⟨d,e⟩,⟨f,g⟩,⟨i,j⟩,⟨k,l⟩,⟨m,n⟩,⟨o,p⟩,⟨q,r⟩,⟨s,t⟩⟩:=a;have:=sM b c;have:=sM d e;have:=sM f g;have:=sM i j;have:=sM k l;have:=sM m n;have:=sM o p;have:=sM q r;have:=sM s t;rw[cU,sS,ng,tC];simp[mD];omega
def Yp(a:E υ):∀(r:E (E υ))(b:O),(∀x∈r,x.length<=b)->(mD a r).length<=r.length*(b+a.length)
 |[],b,_=>by simp[mD]
 |x::r,b,h=>by
  have d:=Yp a r b λy c=>h y (l8 _ c)
  have e:=h x jA;have:(mD a (x::r)).length=a.length+x.length+(mD a r).length:=by simp[mD];omega
  rw[this,bZ,fZ];omega
def Jw{L:E Wh}(h:∀w∈L,e7 w=ε):(l4 L).length<=L.length*201:=by
 cases L with
 |nil=>simp[l4,Lib.join_nil]
 |cons w L=>
  rw[l4,eG,tC,bN];have b:=Yp [32] (L.map ng) 200 λx c=>by
   obtain⟨d,a,rfl⟩:=gh.1 c;have:=JK (h d (l8 _ a))
   rwa [cU,sS]at this
  have e:=JK (h w jA);rw[cU,sS]at e;simp only[dv,bZ,eY]at b⊢;omega
def avH(L:E Wh):nP (L.map cU) (ah (ap [32]))=⟨(l4 L).toArray⟩:=by simp only[nP,l4,rR];rfl
def abY(ws:E ρ)(x:ρ)(i:O)(a:ws.length=i)(q:O)(b:q<i+1):[b9 (bif ω q i then eB ws q else x)]=eF (ws++[x]) q:=by
 subst a;unfold eF eB;by_cases e:q<ws.length
 ·rw[show ω q ws.length=ε from by rw[bM];exact e,a6]
  simp[J3,kN e]
 ·have:q=ws.length:=by omega
  subst this;rw[show ω ws.length ws.length=η from by simp[bM,<-E'],be];simp[J3]
def abM(ws:E ρ)(m:O)(h:ws.length=m):strs (eF ws) m=ws:=by subst h;apply R' (by simp[strs]);intro i b a;simp[strs,eF,fU,eB,J3,a]
def afa(ws:E ρ)(m:O):mO m (eF ws)=ε:=bT.2 λ_ _=>rfl
def Xc:aK θ (H8 bE nP):=az (az ba ZR) apR
def avh(m:O)(f:Θ)(t:ae)(o:m<=12)(d:∀w∈V f m,e7 w=ε):ck θ 1 (.block 0 (.loop (a5 0 SI))) (bm 47 (DL .normal) 1 (ER m 0 0) (uz m f t 0 []) (λa=>a .normal (ar 0 47 [(3,.own 1 m)]) (uz m f t m ((V f m).map cU)))):=by
 refine dQ Xc (n:=200) (m:=1) (lv:=DL) (λi=>ER m i i) (λi=>uz m f t i ((V f i).map cU)) (λ_=>True) m (λ_=>K) (du rfl rfl rfl) (aQ _) trivial λa Q j i r k=>⟨cN _ _ _,?_⟩
 rw[as4];refine aD (λb=>?_) λb=>?_
 ·have b:=aV b
  have c:i<m:=by omega
  have e:e7 (bh (f i))=ε:=d _ (kj (o4 f c));have g:=D8 e;have s:=JK e;simp only[bh,J2,iX,Kv,Ky,aj]at g;obtain⟨⟨u,v⟩,⟨y,z⟩,⟨b,A⟩,⟨B,C⟩,⟨h,D⟩,⟨G,H⟩,⟨I,L⟩,⟨M,N⟩,⟨P,R⟩⟩:=g;rw[cV,bH,bz (x:=(i:Z)+1),aux];have S:(cU (bh (f i))).size=(bE (f i 0)).size+1+(nP [bE (f i 1),bE (f i 2),bE (f i 3),bE (f i 4),bE (f i 5),bE (f i 6),bE (f i 7),bE (f i 8)] (ah (ap [44]))).size:=by rw[bh,<-ac3,gO,gO];rfl
  refine aq ?_ (F ⟨i+1,⟨rfl,c,trivial⟩,rfl,?_⟩)
  ·simp only[Ω,ax,aj,aL,bl,gO]
   have h:(ah (ap [58])).size=1:=rfl;rw[h];omega
  ·show Φ _ (uz m f t (i+1) ((V f (i+1)).map cU))
   rw[iQ,kP,ac3];refine(.cons (ab.refl _) (.cons (ab.row λq l=>?_) .nil));exact abY _ _ i (by rw[dv,cR]) q l
 ·have b:=cu b
  have:i=m:=by omega
  subst this;refine F ⟨_,Φ.refl _,?_⟩;rw[aU rfl];exact j
def vU(b:E Wh->ρ)(a:E Wh->ξ):E SA->χ FR
 |[.row m g]=>γ {val:=.v (.string (b (V (ο g) m))),aw:=[aF m g,a (V (ο g) m)]}
 |_=>ζ
def aab:ak θ 129 (ai bF (vU dF aO)):=by
 refine ca Xc func129 rfl λn p d h=>?_
 unfold vU at d;split at d
 ·rename_i m g
  cases d;simp only[Ω]at h;obtain⟨e,i,_⟩:=h;have c:=Pv i;have k:=kF i;rw[cR]at k;have f:=Jw c;rw[cR]at f;refine⟨[.row η m 9 (J (ο g)) 123],ON m (ο g) 123 ((V (ο g) m).map cU),200,.cons (ab.row λj a=>a7 e j a) .nil,da (avh m (ο g) 123 k c),?_⟩;show aE (ad θ (H8 bE nP) (ON m (ο g) 123 ((V (ο g) m).map cU)) 200 SI [.sl 0 9 0 0 m ζ] [.row η m 9 (J (ο g)) 123] (ag 1)) _
  rw[axV,abM _ m (by rw[dv,cR]),avH];have l:(V (ο g) m).length=m:=cR _ _;refine aD (λb=>?_) λb=>aq ?_ ?_
  ·have b:m=0:=by simpa using b
   subst b;refine F ⟨_,rfl,?_,.cons (ab.row λj a=>(a7 e j a).symm) .nil⟩;rfl
  ·simp only[Ω,ax,aj,aL,bl,afa,bv,sS]
   exact⟨by omega,cG ⟨rfl,(.cons (ab.refl _) (.cons (ab.row λj a=>aR a (dh _)) .nil))⟩,by omega,by omega⟩
  ·have b:m≠0:=by simpa using b
   refine F ⟨_,rfl,?_,.cons (ab.row λj a=>(a7 e j a).symm) .nil⟩;have:(V (ο g) m).isEmpty=η:=by
    cases o:V (ο g) m with
    |nil=>rw[o]at l;exact aR l.symm b
    |cons=>rfl
   rw[dF,this];rfl
 ·cases d
end
end Go.Proofs.YtdadmpgfcfkidaaGreatDoor
