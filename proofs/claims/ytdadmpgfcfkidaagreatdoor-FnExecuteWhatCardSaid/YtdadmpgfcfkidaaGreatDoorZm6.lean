/- Part 6 of the proof of FnExecuteNoneCard, FnExecuteTwiceCard, FnExecuteWhatCard. -/
import Derived.Test.YtdadmpgfcfkidaaGreatDoorZm5
import Derived.JoinedOf
import Derived.Shelf.Strings.Shaped
import Derived.LaidLaws
import Derived.LaidSub
import Derived.Handed
import Derived.Test.YtdadmpgfcfkidaaGreatDoorCards
import Derived.LaidHandle
import Derived.Stop.Joined
set_option maxRecDepth 100000
set_option maxHeartbeats 8000000
set_option linter.defProp false
set_option linter.unusedVariables false
set_option linter.unusedSimpArgs false
open _root_ renaming Array→aX,Bool→ξ,ByteArray→ρ,Int→Z,List→E,Nat→O,Option→χ,String→BB,UInt8→υ,absurd→aR
open Array renaming mk→ap
open ByteArray renaming mk→ah
open Go renaming Calls→aM,DataW→l6,Value→τ,World→ψ
open Go.Shelf renaming Ren→nj
open Go.Instr renaming index→xU
open Go.Lib renaming cut→e_,itoa→bg,join→iW
open List renaming map→Fq,range→dK,singleton_append→azl
open Nat renaming ble→Δ
open Go.OpenSpec renaming ofChange→rU
open Go.Proofs.YtdadmpgfcfkidaaGreatDoor.Rows renaming fnExecuteNoneRow→jP,laid_internal_strconv_uint64pow10→azv,laid_math_bits_deBruijn32tab→azw,laid_math_bits_deBruijn64tab→azx,laid_strconv_ErrRange→azy,laid_strconv_ErrSyntax→azz,laid_unicode_utf8_acceptRanges→azA,laid_unicode_utf8_first→azB
open Go.Proofs.Tryz renaming f3→vC,f4→vD,f5→vE,func20→Tg,func48→FI,func49→qv,func8→aey,func94→FJ,ntmps20→Tt,ntmps48→Ko,ntmps49→qw,ntmps94→FK,prog→θ,results20→Ty,results48→Kq,results49→qx,results94→FL,underlying41→tH
open Go.Value renaming int→jc,string→b9
open Go.World renaming var?→TC
open Bool renaming false→η,true→ε
open Option renaming none→ζ,some→γ
open Go.Proofs.Tryz
namespace Go.Proofs.YtdadmpgfcfkidaaGreatDoor
noncomputable section
open Go.RowKit Go.ChangeShapes Go.WideShapes Go.ChangeAt Go.Shelf
variable {L:E Wh}
variable {X:ψ}
def fc.yes{e:Ending}{w':ψ}(h:fc X ε L e w'):∃s,e=.returned (.tuple #[s,.bool ε])/\bj w' s L/\Fr (au X) X w':=by obtain⟨s,a,b,c⟩:=h;exact⟨s,a,b rfl,c⟩
def fc.no{e:Ending}{w':ψ}(h:fc X η L e w'):∃s,e=.returned (.tuple #[s,.bool η])/\Fr (au X) X w':=by obtain⟨s,a,_,b⟩:=h;exact⟨s,a,b⟩
variable {I:FuncId}
def UT{y:E Wh->E Wh->ξ}{t:E Wh->E Wh->E Wh}(h:ak θ I (ai k0 (yH y t))){v d:τ}{A B:E Wh}(g:bj X v A)(a:bj X d B)(i:A.length<=12)(c:B.length<=12)(j:a4 (au X) X):aM θ I #[v,d] X (fc X (y A B) (t A B)):=by have e:ai k0 (yH y t) [.sl 0 9 0 0 A.length ζ,.sl 1 9 0 0 B.length ζ] [.row η A.length 9 (J (Y A)) 123,.row η B.length 9 (J (Y B)) 123] 2=γ (dO 2 [0,1] (y (eE A) (eE B)) (t (eE A) (eE B)) (Δ (0+A.length) A.length::(Δ (0+B.length) B.length::([aF A.length (λq=>J (Y A) (0+q)),aF B.length (λq=>J (Y B) (0+q)),decide (A.length<=2^38),decide (B.length<=2^38)]++[])))):=rfl;rw[iy,iy]at e;refine(Ck h g a e (D0 i c _) rfl rfl j).mono ?_;rintro e r ⟨x,k,rfl,l,m,n,o⟩;exact Ea l (m 0 _ rfl) (λb p=>n 0 b (fA 0) p) o
def L5(s:ρ)(k:Z)(i:a4 (au X) X)(hs:s.size<=1000):aM θ 95 #[.string s,ι k] X λe w'=>(∃g c,e=.returned (.tuple #[.slice (γ ⟨g,0,ζ⟩) (i8 s) c,.bool (jG k s)])/\i8 s<=c/\∀j,j<i8 s->w'.cell? ⟨g,j,ζ⟩=γ (ι (nS s j)))/\Fr (au X) X w':=by
 have e:ai [.val,.val] (BO i8 jG nS) [.v (.string s),.v (ι k)] [] 0=γ {val:=.af [.own 0 (i8 s),.v (.bool (jG k s))],rd:=[],put:=[],new:=[.row ε (i8 s) 1 (qf (nS s)) 3],aw:=[Nat.blt s.size 4294967281]}:=rfl;refine(y' PH [.string s,ι k] e (by simp only[Ω,ax,aj,bM];omega) rfl rfl i).mono ?_;rintro e w' ⟨x,r,rfl,t,u,M,v⟩;obtain⟨a,y,rfl,b,z⟩:=E1 t;rw[xO z];simp only[VR]at b;obtain⟨q,A,rfl⟩:=b;have B:=u 0 _ rfl;rcases B with⟨h,_⟩|⟨N,l,P,Q,d,C,D,G,H⟩
 ·cases h
 ·rw[im,A]at d
  cases d;obtain⟨rfl,f,rfl,R,S⟩:=D rfl;refine⟨⟨q.n,q.c,by rw[f],G,λj I=>?_⟩,v⟩;rw[oL C];have:=(H j I).2 0 (by omega);rw[f]at this;simpa using this
variable {D:ρ}
def af6{v:τ}(o:D.toList=[98,97,99,107])(d:bj X v L)(j:bK L)(k:a4 (au X) X):aM θ 48 #[v,.string D] X (iL X (mQ L (uh L []))):=by
 have mixed:=mixed;have g:=L2 ZB d (dI j) k;have b:∀a s,Fr (au X) X a->bj a s (tB L)->iL X (tB L,[111,107]) (.returned (.tuple #[s,.string ⟨#[111,107,10]⟩])) a:=λa s f h=>⟨s,rfl,h,f⟩
 have c:∀a,Fr (au X) X a->iL X (L,DU) (.returned (.tuple #[v,.string ⟨#[110,111,10]⟩])) a:=λa f=>⟨v,rfl,d.below f,f⟩
 unfold uh;cases i:yB L with
 |true=>
  rw[i]at g;simp only[a6,mQ];clear d j k i c
  go_enter FI,Ko
  go_wp2_with (go_at_call 84;refine g.mono ?_;rintro e a l;obtain⟨s,rfl,n,m⟩:=l.yes)
  refine gl (v:=.tuple #[s,.string ⟨#[111,107,10]⟩]) ?_ rfl (b _ _ m n);simp[results,Kq,go_sem]
 |false=>
  rw[i]at g;simp only[be,mQ];clear d j k i b
  go_enter FI,Ko
  go_wp2_with (go_at_call 84;refine g.mono ?_;rintro e a l;obtain⟨s,rfl,m⟩:=l.no)
  refine gl (v:=.tuple #[v,.string ⟨#[110,111,10]⟩]) ?_ rfl (c _ m);simp[results,Kq,go_sem]
def af8{v:τ}(t:D.toList=[109,105,114,114,111,114])(c:bj X v L)(i:bK L)(j:a4 (au X) X):aM θ 48 #[v,.string D] X (iL X (mQ L (uL L []))):=by
 have mixed:=mixed;have o:=L2 ZB c (dI i) j;have b:=λa (f:Fr (au X) X a)=>L2 ap5 (c.below f) (dI i) (j.fw f)
 have d:∀a s,Fr (au X) X a->bj a s (tM L)->iL X (tM L,[111,107]) (.returned (.tuple #[s,.string ⟨#[111,107,10]⟩])) a:=λa s f h=>⟨s,rfl,h,f⟩
 have g:∀a,Fr (au X) X a->iL X (L,DU) (.returned (.tuple #[v,.string ⟨#[110,111,10]⟩])) a:=λa f=>⟨v,rfl,c.below f,f⟩
 unfold uL;cases k:yM L with
 |true=>
  replace b:∀a,Fr (au X) X a->aM θ 85 #[v] a (fc a ε (tM L)):=λa f=>by have:=b a f;rwa [k]at this
  simp only[a6,mQ];clear c i j k g
  go_enter FI,Ko
  go_wp2_with (first|(go_at_call 84;refine o.mono ?_;rintro e a ⟨p,rfl,_,l⟩)|(go_at_call 85;refine(b _ ‹_›).mono ?_;rintro e q m;obtain⟨s,rfl,r,n⟩:=m.yes))
  refine gl (v:=.tuple #[s,.string ⟨#[111,107,10]⟩]) ?_ rfl (d _ _ (dr l n) r);simp[results,Kq,go_sem]
 |false=>
  replace b:∀a,Fr (au X) X a->aM θ 85 #[v] a (fc a η (tM L)):=λa f=>by have:=b a f;rwa [k]at this
  simp only[be,mQ];clear c i j k d
  go_enter FI,Ko
  go_wp2_with (first|(go_at_call 84;refine o.mono ?_;rintro e a ⟨p,rfl,_,l⟩)|(go_at_call 85;refine(b _ ‹_›).mono ?_;rintro e q m;obtain⟨s,rfl,n⟩:=m.no))
  refine gl (v:=.tuple #[v,.string ⟨#[110,111,10]⟩]) ?_ rfl (g _ (dr l n));simp[results,Kq,go_sem]
def af9{v:τ}(c:(D.toList==[98,97,99,107])=η)(d:(D.toList==[109,105,114,114,111,114])=η)(e:(D.toList==[115,104,111,119])=η)(f:(D.toList==[102,111,108,100])=η)(g:(D.toList==[112,101,114,105,111,100])=η)(h:(D.toList==[115,117,109])=η)(b:bj X v L):aM θ 48 #[v,.string D] X (iL X (L,[119,104,97,116])):=by
 have mixed:=mixed;have a:iL X (L,[119,104,97,116]) (.returned (.tuple #[v,.string ⟨#[119,104,97,116,10]⟩])) X:=⟨v,rfl,b,Fr.refl _ _⟩;clear b
 go_enter FI,Ko
 go_wp2
 refine gl (v:=.tuple #[v,.string ⟨#[119,104,97,116,10]⟩]) ?_ rfl (a);simp[results,Kq,go_sem]
def agF{v:τ}(s:ρ)(C:D.toList=[116,117,114,110])(m:bj X v L)(n:bK L)(j:a4 (au X) X)(hs:s.size<=1000):aM θ 94 #[v,.string D,.string s] X (fc X (cS 1 s.data.toList&&yT (aN s.data.toList 0) L) (tT (aN s.data.toList 0) L)):=by
 have mixed:=mixed;have d:=L5 s 1 j hs;have k:=λx b (f:Fr (au X) X b)=>L3 aqM x (m.below f) (dI n) (j.fw f)
 rw[show(1:Z)=((1:O):Z)from rfl,nT]at d;cases h:cS 1 s.data.toList with
 |false=>
  rw[h]at d;rw[l5];have o:∀b,Fr (au X) X b->fc X η (tT (aN s.data.toList 0) L) (.returned (.tuple #[v,.bool η])) b:=λb f=>⟨v,rfl,λh=>(by cases h),f⟩
  clear m n j hs h k
  go_enter FJ,FK
  go_wp2_with (go_at_call 95;refine d.mono ?_;rintro e b ⟨⟨g,c,rfl,_,_⟩,p⟩)
  refine gl (v:=.tuple #[v,.bool η]) ?_ rfl (o _ p);simp[results,FL,go_sem]
 |true=>
  rw[h]at d;rw[ex];have y:=uS h;have z:=rk h (oq);rw[y]at d
  replace d:aM θ 95 #[.string s,ι 1] X λe q=>∃g c,e=.returned (.tuple #[.slice (γ ⟨g,0,ζ⟩) 1 c,.bool ε])/\q.cell? ⟨g,0,ζ⟩=γ (ι (aN s.data.toList 0))/\Fr (au X) X q:=d.mono λe q ⟨⟨g,c,r,_,i⟩,B⟩=>⟨g,c,r,by rw[<-z];exact i 0 (oq),B⟩
  have t:∀b e l,Fr (au X) X b->fc b (yT (aN s.data.toList 0) L) (tT (aN s.data.toList 0) L) e l->fc X (yT (aN s.data.toList 0) L) (tT (aN s.data.toList 0) L) e l:=λb e l f ⟨s,r,u,i⟩=>⟨s,r,u,dr f i⟩
  replace k:=λb f=>k (aN s.data.toList 0) b f
  clear m n j hs h y z;generalize yT (aN s.data.toList 0) L=a at*;generalize tT (aN s.data.toList 0) L=T at*;generalize aN s.data.toList 0=x at*
  go_enter FJ,FK
  go_wp2_with (first|(go_at_call 95;refine d.mono ?_;rintro e b ⟨g,c,rfl,G,p⟩)|(go_at_call 160;refine(k _ ‹_›).mono ?_;rintro e l ⟨A,rfl,u,i⟩))
  refine gl (v:=.tuple #[A,.bool a]) ?_ rfl (t _ _ _ p ⟨A,rfl,u,i⟩);simp[results,FL,go_sem]
def agE{v:τ}(s:ρ)(C:D.toList=[108,97,116,101,114])(m:bj X v L)(n:bK L)(j:a4 (au X) X)(hs:s.size<=1000):aM θ 94 #[v,.string D,.string s] X (fc X (cS 1 s.data.toList&&yL (aN s.data.toList 0) L) (tL (aN s.data.toList 0) L)):=by
 have mixed:=mixed;have d:=L5 s 1 j hs;have k:=λx b (f:Fr (au X) X b)=>L3 apZ x (m.below f) (dI n) (j.fw f)
 rw[show(1:Z)=((1:O):Z)from rfl,nT]at d;cases h:cS 1 s.data.toList with
 |false=>
  rw[h]at d;rw[l5];have o:∀b,Fr (au X) X b->fc X η (tL (aN s.data.toList 0) L) (.returned (.tuple #[v,.bool η])) b:=λb f=>⟨v,rfl,λh=>(by cases h),f⟩
  clear m n j hs h k
  go_enter FJ,FK
  go_wp2_with (go_at_call 95;refine d.mono ?_;rintro e b ⟨⟨g,c,rfl,_,_⟩,p⟩)
  refine gl (v:=.tuple #[v,.bool η]) ?_ rfl (o _ p);simp[results,FL,go_sem]
 |true=>
  rw[h]at d;rw[ex];have y:=uS h;have z:=rk h (oq);rw[y]at d
  replace d:aM θ 95 #[.string s,ι 1] X λe q=>∃g c,e=.returned (.tuple #[.slice (γ ⟨g,0,ζ⟩) 1 c,.bool ε])/\q.cell? ⟨g,0,ζ⟩=γ (ι (aN s.data.toList 0))/\Fr (au X) X q:=d.mono λe q ⟨⟨g,c,r,_,i⟩,B⟩=>⟨g,c,r,by rw[<-z];exact i 0 (oq),B⟩
  have t:∀b e l,Fr (au X) X b->fc b (yL (aN s.data.toList 0) L) (tL (aN s.data.toList 0) L) e l->fc X (yL (aN s.data.toList 0) L) (tL (aN s.data.toList 0) L) e l:=λb e l f ⟨s,r,u,i⟩=>⟨s,r,u,dr f i⟩
  replace k:=λb f=>k (aN s.data.toList 0) b f
  clear m n j hs h y z;generalize yL (aN s.data.toList 0) L=a at*;generalize tL (aN s.data.toList 0) L=T at*;generalize aN s.data.toList 0=x at*
  go_enter FJ,FK
  go_wp2_with (first|(go_at_call 95;refine d.mono ?_;rintro e b ⟨g,c,rfl,G,p⟩)|(go_at_call 161;refine(k _ ‹_›).mono ?_;rintro e l ⟨A,rfl,u,i⟩))
  refine gl (v:=.tuple #[A,.bool a]) ?_ rfl (t _ _ _ p ⟨A,rfl,u,i⟩);simp[results,FL,go_sem]
def agD{v:τ}(s:ρ)(C:D.toList=[102,97,115,116,101,114])(m:bj X v L)(n:bK L)(j:a4 (au X) X)(hs:s.size<=1000):aM θ 94 #[v,.string D,.string s] X (fc X (cS 1 s.data.toList&&yF (aN s.data.toList 0) L) (tF (aN s.data.toList 0) L)):=by
 have mixed:=mixed;have d:=L5 s 1 j hs;have k:=λx b (f:Fr (au X) X b)=>L3 apx x (m.below f) (dI n) (j.fw f)
 rw[show(1:Z)=((1:O):Z)from rfl,nT]at d;cases h:cS 1 s.data.toList with
 |false=>
  rw[h]at d;rw[l5];have o:∀b,Fr (au X) X b->fc X η (tF (aN s.data.toList 0) L) (.returned (.tuple #[v,.bool η])) b:=λb f=>⟨v,rfl,λh=>(by cases h),f⟩
  clear m n j hs h k
  go_enter FJ,FK
  go_wp2_with (go_at_call 95;refine d.mono ?_;rintro e b ⟨⟨g,c,rfl,_,_⟩,p⟩)
  refine gl (v:=.tuple #[v,.bool η]) ?_ rfl (o _ p);simp[results,FL,go_sem]
 |true=>
  rw[h]at d;rw[ex];have y:=uS h;have z:=rk h (oq);rw[y]at d
  replace d:aM θ 95 #[.string s,ι 1] X λe q=>∃g c,e=.returned (.tuple #[.slice (γ ⟨g,0,ζ⟩) 1 c,.bool ε])/\q.cell? ⟨g,0,ζ⟩=γ (ι (aN s.data.toList 0))/\Fr (au X) X q:=d.mono λe q ⟨⟨g,c,r,_,i⟩,B⟩=>⟨g,c,r,by rw[<-z];exact i 0 (oq),B⟩
  have t:∀b e l,Fr (au X) X b->fc b (yF (aN s.data.toList 0) L) (tF (aN s.data.toList 0) L) e l->fc X (yF (aN s.data.toList 0) L) (tF (aN s.data.toList 0) L) e l:=λb e l f ⟨s,r,u,i⟩=>⟨s,r,u,dr f i⟩
  replace k:=λb f=>k (aN s.data.toList 0) b f
  clear m n j hs h y z;generalize yF (aN s.data.toList 0) L=a at*;generalize tF (aN s.data.toList 0) L=T at*;generalize aN s.data.toList 0=x at*
  go_enter FJ,FK
  go_wp2_with (first|(go_at_call 95;refine d.mono ?_;rintro e b ⟨g,c,rfl,G,p⟩)|(go_at_call 162;refine(k _ ‹_›).mono ?_;rintro e l ⟨A,rfl,u,i⟩))
  refine gl (v:=.tuple #[A,.bool a]) ?_ rfl (t _ _ _ p ⟨A,rfl,u,i⟩);simp[results,FL,go_sem]
def gC(w:ψ)(b a:ξ)(T:E Wh)(e:Ending)(w':ψ):Prop:=∃s,e=.returned (.tuple #[s,.bool b,.bool a])/\(a=ε->bj w' s T)/\Fr (au w) w w'
def agi{v:τ}(s:ρ)(p:D.toList=[115,101,116])(_:bj X v L)(_:bK L)(g:a4 (au X) X)(_:s.size<=1000):aM θ 49 #[v,.string D,.string s] X (gC X ε (dJ s) (b6 s)):=by
 have mixed:=mixed;have c:=L6 s g;obtain⟨m,n⟩:=P5 s;rw[m,n]at c;clear m n;cases d:dJ s with
 |false=>
  rw[d]at c;have i:∀a,Fr (au X) X a->gC X ε η (b6 s) (.returned (.tuple #[v,.bool ε,.bool η])) a:=λa f=>⟨v,rfl,λh=>(by cases h),f⟩
  clear g d
  go_enter qv,qw
  go_wp2_with (go_at_call 90;refine c.mono ?_;rintro e a j;obtain⟨b,rfl,k⟩:=j.no)
  refine gl (v:=.tuple #[v,.bool ε,.bool η]) ?_ rfl (i _ k);simp[results,qx,go_sem]
 |true=>
  rw[d]at c;have l:∀a b,Fr (au X) X a->bj a b (b6 s)->gC X ε ε (b6 s) (.returned (.tuple #[b,.bool ε,.bool ε])) a:=λa b f h=>⟨b,rfl,λ_=>h,f⟩
  clear g d
  go_enter qv,qw
  go_wp2_with (go_at_call 90;refine c.mono ?_;rintro e a j;obtain⟨b,rfl,o,k⟩:=j.yes)
  refine gl (v:=.tuple #[b,.bool ε,.bool ε]) ?_ rfl (l _ _ k o);simp[results,qx,go_sem]
def agb{v:τ}(s:ρ)(C:D.toList=[97,100,100])(o:bj X v L)(p:bK L)(k:a4 (au X) X)(_:s.size<=1000):aM θ 49 #[v,.string D,.string s] X (gC X ε (dJ s&&gZ L (b6 s)) (iT L (b6 s))):=by
 have mixed:=mixed;have d:=L6 s k;obtain⟨t,u⟩:=P5 s;rw[t,u]at d;clear t u;have i:=λb x (f:Fr (au X) X b)(h:bj b x (b6 s))=>UT aqz (o.below f) h (dI p) (dI (AR s)) (k.fw f)
 cases l:dJ s with
 |false=>
  rw[l]at d;rw[l5];have q:∀b,Fr (au X) X b->gC X ε η (iT L (b6 s)) (.returned (.tuple #[v,.bool ε,.bool η])) b:=λb f=>⟨v,rfl,λh=>(by cases h),f⟩
  clear o p k l i
  go_enter qv,qw
  go_wp2_with (go_at_call 90;refine d.mono ?_;rintro e b m;obtain⟨y,rfl,n⟩:=m.no)
  refine gl (v:=.tuple #[v,.bool ε,.bool η]) ?_ rfl (q _ n);simp[results,qx,go_sem]
 |true=>
  rw[l]at d;rw[ex];have r:∀b j c,Fr (au X) X b->(gZ L (b6 s)=ε->bj j c (iT L (b6 s)))->Fr (au b) b j->gC X ε (gZ L (b6 s)) (iT L (b6 s)) (.returned (.tuple #[c,.bool ε,.bool (gZ L (b6 s))])) j:=λb j c f h g=>⟨c,rfl,h,dr f g⟩
  clear o p k l;generalize gZ L (b6 s)=a at*;generalize iT L (b6 s)=T at*
  go_enter qv,qw
  go_wp2_with (first|(go_at_call 90;refine d.mono ?_;rintro e b m;obtain⟨y,rfl,z,n⟩:=m.yes;clear m)|(go_at_call 91;refine(i _ _ n z).mono ?_;rintro e j ⟨c,rfl,A,B⟩))
  refine gl (v:=.tuple #[c,.bool ε,.bool a]) ?_ rfl (r _ _ _ n A B);simp[results,qx,go_sem]
def agj{v:τ}(s:ρ)(C:D.toList=[116,105,109,101,115])(o:bj X v L)(p:bK L)(k:a4 (au X) X)(_:s.size<=1000):aM θ 49 #[v,.string D,.string s] X (gC X ε (dJ s&&fC L (b6 s)) (iU L (b6 s))):=by
 have mixed:=mixed;have d:=L6 s k;obtain⟨t,u⟩:=P5 s;rw[t,u]at d;clear t u;have i:=λb x (f:Fr (au X) X b)(h:bj b x (b6 s))=>UT aqJ (o.below f) h (dI p) (dI (AR s)) (k.fw f)
 cases l:dJ s with
 |false=>
  rw[l]at d;rw[l5];have q:∀b,Fr (au X) X b->gC X ε η (iU L (b6 s)) (.returned (.tuple #[v,.bool ε,.bool η])) b:=λb f=>⟨v,rfl,λh=>(by cases h),f⟩
  clear o p k l i
  go_enter qv,qw
  go_wp2_with (go_at_call 90;refine d.mono ?_;rintro e b m;obtain⟨y,rfl,n⟩:=m.no)
  refine gl (v:=.tuple #[v,.bool ε,.bool η]) ?_ rfl (q _ n);simp[results,qx,go_sem]
 |true=>
  rw[l]at d;rw[ex];have r:∀b j c,Fr (au X) X b->(fC L (b6 s)=ε->bj j c (iU L (b6 s)))->Fr (au b) b j->gC X ε (fC L (b6 s)) (iU L (b6 s)) (.returned (.tuple #[c,.bool ε,.bool (fC L (b6 s))])) j:=λb j c f h g=>⟨c,rfl,h,dr f g⟩
  clear o p k l;generalize fC L (b6 s)=a at*;generalize iU L (b6 s)=T at*
  go_enter qv,qw
  go_wp2_with (first|(go_at_call 90;refine d.mono ?_;rintro e b m;obtain⟨y,rfl,z,n⟩:=m.yes;clear m)|(go_at_call 92;refine(i _ _ n z).mono ?_;rintro e j ⟨c,rfl,A,B⟩))
  refine gl (v:=.tuple #[c,.bool ε,.bool a]) ?_ rfl (r _ _ _ n A B);simp[results,qx,go_sem]
def agd{v:τ}(s:ρ)(l:D.toList=[105,110])(_:bj X v L)(_:bK L)(g:a4 (au X) X)(hs:s.size<=1000):aM θ 49 #[v,.string D,.string s] X (gC X ε (ja s ε) (jK s ε)):=by
 have mixed:=mixed;have i:=UZ s ε g hs;have d:∀c b,(ja s ε=ε->bj c b (jK s ε))->Fr (au X) X c->gC X ε (ja s ε) (jK s ε) (.returned (.tuple #[b,.bool ε,.bool (ja s ε)])) c:=λc b h f=>⟨b,rfl,h,f⟩
 clear g hs;generalize ja s ε=a at*;generalize jK s ε=T at*
 go_enter qv,qw
 go_wp2_with (go_at_call 93;refine i.mono ?_;rintro e c ⟨b,rfl,j,k⟩)
 refine gl (v:=.tuple #[b,.bool ε,.bool a]) ?_ rfl (d _ _ j k);simp[results,qx,go_sem]
def agh{v:τ}(s:ρ)(l:D.toList=[111,117,116])(_:bj X v L)(_:bK L)(g:a4 (au X) X)(hs:s.size<=1000):aM θ 49 #[v,.string D,.string s] X (gC X ε (ja s η) (jK s η)):=by
 have mixed:=mixed;have i:=UZ s η g hs;have d:∀c b,(ja s η=ε->bj c b (jK s η))->Fr (au X) X c->gC X ε (ja s η) (jK s η) (.returned (.tuple #[b,.bool ε,.bool (ja s η)])) c:=λc b h f=>⟨b,rfl,h,f⟩
 clear g hs;generalize ja s η=a at*;generalize jK s η=T at*
 go_enter qv,qw
 go_wp2_with (go_at_call 93;refine i.mono ?_;rintro e c ⟨b,rfl,j,k⟩)
 refine gl (v:=.tuple #[b,.bool ε,.bool a]) ?_ rfl (d _ _ j k);simp[results,qx,go_sem]
def agk{v:τ}(s:ρ)(k:D.toList=[116,117,114,110])(g:bj X v L)(i:bK L)(j:a4 (au X) X)(hs:s.size<=1000):aM θ 49 #[v,.string D,.string s] X (gC X ε (cS 1 s.data.toList&&yT (aN s.data.toList 0) L) (tT (aN s.data.toList 0) L)):=by
 have mixed:=mixed;have l:=agF s k g i j hs;generalize(cS 1 s.data.toList&&yT (aN s.data.toList 0) L)=a at*;generalize tT (aN s.data.toList 0) L=T at*;have d:∀c b,(a=ε->bj c b T)->Fr (au X) X c->gC X ε a T (.returned (.tuple #[b,.bool ε,.bool a])) c:=λc b h f=>⟨b,rfl,h,f⟩
 clear g i j hs
 go_enter qv,qw
 go_wp2_with (go_at_call 94;refine l.mono ?_;rintro e c ⟨b,rfl,m,n⟩)
 refine gl (v:=.tuple #[b,.bool ε,.bool a]) ?_ rfl (d _ _ m n);simp[results,qx,go_sem]
def age{v:τ}(s:ρ)(k:D.toList=[108,97,116,101,114])(g:bj X v L)(i:bK L)(j:a4 (au X) X)(hs:s.size<=1000):aM θ 49 #[v,.string D,.string s] X (gC X ε (cS 1 s.data.toList&&yL (aN s.data.toList 0) L) (tL (aN s.data.toList 0) L)):=by
 have mixed:=mixed;have l:=agE s k g i j hs;generalize(cS 1 s.data.toList&&yL (aN s.data.toList 0) L)=a at*;generalize tL (aN s.data.toList 0) L=T at*;have d:∀c b,(a=ε->bj c b T)->Fr (au X) X c->gC X ε a T (.returned (.tuple #[b,.bool ε,.bool a])) c:=λc b h f=>⟨b,rfl,h,f⟩
 clear g i j hs
 go_enter qv,qw
 go_wp2_with (go_at_call 94;refine l.mono ?_;rintro e c ⟨b,rfl,m,n⟩)
 refine gl (v:=.tuple #[b,.bool ε,.bool a]) ?_ rfl (d _ _ m n);simp[results,qx,go_sem]
def agc{v:τ}(s:ρ)(k:D.toList=[102,97,115,116,101,114])(g:bj X v L)(i:bK L)(j:a4 (au X) X)(hs:s.size<=1000):aM θ 49 #[v,.string D,.string s] X (gC X ε (cS 1 s.data.toList&&yF (aN s.data.toList 0) L) (tF (aN s.data.toList 0) L)):=by
 have mixed:=mixed;have l:=agD s k g i j hs;generalize(cS 1 s.data.toList&&yF (aN s.data.toList 0) L)=a at*;generalize tF (aN s.data.toList 0) L=T at*;have d:∀c b,(a=ε->bj c b T)->Fr (au X) X c->gC X ε a T (.returned (.tuple #[b,.bool ε,.bool a])) c:=λc b h f=>⟨b,rfl,h,f⟩
 clear g i j hs
 go_enter qv,qw
 go_wp2_with (go_at_call 94;refine l.mono ?_;rintro e c ⟨b,rfl,m,n⟩)
 refine gl (v:=.tuple #[b,.bool ε,.bool a]) ?_ rfl (d _ _ m n);simp[results,qx,go_sem]
def agf{v:τ}(s:ρ)(b:(D.toList==[115,101,116])=η)(c:(D.toList==[97,100,100])=η)(d:(D.toList==[116,105,109,101,115])=η)(e:(D.toList==[105,110])=η)(f:(D.toList==[111,117,116])=η)(g:(D.toList==[116,117,114,110])=η)(i:(D.toList==[108,97,116,101,114])=η)(j:(D.toList==[102,97,115,116,101,114])=η):aM θ 49 #[v,.string D,.string s] X (gC X η η L):=by
 have mixed:=mixed;have a:gC X η η L (.returned (.tuple #[v,.bool η,.bool η])) X:=⟨v,rfl,λh=>(by cases h),Fr.refl _ _⟩
 go_enter qv,qw
 go_wp2
 refine gl (v:=.tuple #[v,.bool η,.bool η]) ?_ rfl (a);simp[results,qx,go_sem]
def af4{v:τ}(s:ρ)(w:ψ)(b:(D.toList==[97,116])=η)(c:(D.toList==[103,114,105,100])=η)(d:(D.toList==[97,114,101,97])=η)(e:(D.toList==[112,108,111,116])=η):aM θ 50 #[v,.string D,.string s] w (gm w (.string ⟨#[119,104,97,116,10]⟩)):=by
 have mixed:=mixed;have a:=Fr.refl (au w) w
 go_enter func50,ntmps50
 go_wp2
 go_ret
 exact⟨rfl,a⟩
def ii:E υ->O
 |[]=>0
 |b::l=>if b=32 then 0 else ii l+1
def QM:∀l:E υ,ii l<=l.length
 |[]=>aQ _
 |b::l=>by
  unfold ii;split
  ·exact ej _
  ·exact Nat.succ_le_succ (QM l)
def abB:∀(l:E υ)(i:O),i<ii l->l.getD i 0≠32
 |[],i,h=>aR h (dh _)
 |b::l,i,h=>by
  unfold ii at h;split at h
  ·exact aR h (dh _)
  ·rename_i a
   match i with
   |0=>exact a
   |i+1=>exact abB l i (by omega)
def QL:∀l:E υ,ii l<l.length->l.getD (ii l) 0=32/\l=l.take (ii l)++32::l.drop (ii l+1)
 |[],h=>aR h (ol 0)
 |b::l,h=>by
  unfold ii at h⊢;split
  ·rename_i a
   subst a;exact⟨rfl,rfl⟩
  ·rename_i a
   rw[bI a,bZ]at h;obtain⟨c,d⟩:=QL l (by omega);refine⟨c,?_⟩;rw[Sn,adR,lq,<-d]
def QK:∀l:E υ,32∉l.take (ii l)
 |[]=>by simp
 |b::l=>by
  unfold ii;split
  ·simp
  ·rename_i a
   rw[Sn,dE];rintro(h|h)
   ·exact a h.symm
   ·exact QK l h
variable {l:E υ}
def ahG(h:ii l<l.length):e_ l [32]=(l.take (ii l),l.drop (ii l+1),ε):=by have a:=(QL l h).2;have:=Ml (r:=l.drop (ii l+1)) (QK l);rw[<-a]at this;exact this
def ahF(h:ii l=l.length):e_ l [32]=(l,[],η):=by
 refine Mm ?_;have:=QK l
 rwa [h,Bp]at this
def Qu(s:ρ)(i:O)(a:i<s.data.toList.length)(W:ψ):(xU 9 (.string s) (ι i)).run θ W=.ok (.int .u8 ((s.data.toList.getD i 0).toNat:O)) W:=by
 have b:i<s.size:=by rw[<-kX];exact a
 rw[run_index_string W 9 s .i64 i (by kernel_rfl),dif_pos ⟨by omega,by omega⟩];rw[cX,df a,iK];rfl
structure vV (s:ρ) (k:O):Prop where
 le:k<=s.size
 sz:s.size<=1000
 ne:∀i:O,i<k->∃b:Z,(∀W,(xU 9 (.string s) (ι i)).run θ W=.ok (.int .u8 b) W)/\b≠32
 hit:k<s.size->∀W,(xU 9 (.string s) (ι k)).run θ W=.ok (.int .u8 32) W
def YP(hs:D.size<=1000):vV D (ii D.data.toList):=by
 have c:=kX D;have d:=QM D.data.toList;refine⟨by omega,hs,λi a=>⟨_,λW=>Qu D i (by omega) W,λe=>abB _ i a ?_⟩,λf W=>?_⟩
 ·apply FM.1
  have b:(32:υ).toNat=32:=rfl;omega
 ·rw[Qu D _ (by omega) W,(QL _ (by omega)).1]
  rfl
def anq{v:τ}{a:E Wh×E υ}(h:vV D D.size)(f:aM θ 48 #[v,.string D] X (iL X a)):aM θ 20 #[v,.string D] X (iL X a):=by
 have mixed:=mixed;obtain⟨_,p,c,_⟩:=h;have r:(D.size:Z)<=1000:=by omega
 go_enter Tg,Tt
 go_wp2_with fail
 go_loopw [6] (λi wr=>∃q:O,q<=D.size/\i=.int .i64 q/\wr=X) (λi _=>D.size-(intOf i).toNat)
 case atStart=>exact⟨0,ej _,rfl,rfl⟩
 case round=>
  obtain⟨q,t,rfl,rfl⟩:=hrel;by_cases d:q<D.size
  ·have j:(q:Z)<D.size:=by omega
   obtain⟨b,k,l⟩:=c q d;clear c f
   go_wp2_with fail
   exact⟨⟨q+1,by omega,by simp⟩,by simp[intOf];omega⟩
  ·have m:(q:Z)=D.size:=by omega
   clear c
   go_wp2_with (go_at_call 48;refine f.mono ?_;rintro e u ⟨g,rfl,n,o⟩)
   refine gl (v:=.tuple #[g,.string ⟨(a.2++[10]).toArray⟩]) ?_ rfl ⟨g,rfl,n,o⟩;simp[results,Ty,go_sem]
variable {i:O}
def ant{v:τ}(h:vV D i)(g:i<D.size)(j:aM θ 49 #[v,.string (D.extract 0 i),.string (D.extract (i+1) D.size)] X (gC X ε ε L)):aM θ 20 #[v,.string D] X (iL X (L,[111,107])):=by
 have mixed:=mixed;obtain⟨_,y,d,f⟩:=h;have f:=f g;have z:(D.size:Z)<=1000:=by omega
 have m:(i:Z)<D.size:=by omega
 go_enter Tg,Tt
 go_wp2_with fail
 go_loopw [6] (λa wr=>∃q:O,q<=i/\a=.int .i64 q/\wr=X) (λa _=>i-(intOf a).toNat)
 case atStart=>exact⟨0,ej _,rfl,rfl⟩
 case round=>
  obtain⟨q,n,rfl,rfl⟩:=hrel;by_cases c:q<i
  ·have o:(q:Z)<D.size:=by omega
   obtain⟨b,p,r⟩:=d q c;clear d f j
   go_wp2_with fail
   exact⟨⟨q+1,by omega,by simp⟩,by simp[intOf];omega⟩
  ·obtain rfl:q=i:=by omega
   have t:¬(q:Z)=D.size:=by omega
   clear d n c g
   go_wp2_with (go_at_call 49;refine j.mono ?_;rintro e A ⟨l,rfl,u,x⟩)
   refine gl (v:=.tuple #[l,.string ⟨#[111,107,10]⟩]) ?_ rfl ⟨l,rfl,u trivial,x⟩;simp[results,Ty,go_sem]
def anr{v:τ}{T L:E Wh}(h:vV D i)(j:i<D.size)(d:bj X v L)(l:aM θ 49 #[v,.string (D.extract 0 i),.string (D.extract (i+1) D.size)] X (gC X ε η T)):aM θ 20 #[v,.string D] X (iL X (L,DU)):=by
 have mixed:=mixed;obtain⟨_,x,f,g⟩:=h;have g:=g j;have y:(D.size:Z)<=1000:=by omega
 have n:(i:Z)<D.size:=by omega
 go_enter Tg,Tt
 go_wp2_with fail
 go_loopw [6] (λa wr=>∃q:O,q<=i/\a=.int .i64 q/\wr=X) (λa _=>i-(intOf a).toNat)
 case atStart=>exact⟨0,ej _,rfl,rfl⟩
 case round=>
  obtain⟨q,o,rfl,rfl⟩:=hrel;by_cases c:q<i
  ·have p:(q:Z)<D.size:=by omega
   obtain⟨b,r,t⟩:=f q c;clear f g l
   go_wp2_with fail
   exact⟨⟨q+1,by omega,by simp⟩,by simp[intOf];omega⟩
  ·obtain rfl:q=i:=by omega
   have u:¬(q:Z)=D.size:=by omega
   clear f o c j
   go_wp2_with (go_at_call 49;refine l.mono ?_;rintro e z ⟨A,rfl,_,m⟩;replace d:=d.below m)
   refine gl (v:=.tuple #[v,.string ⟨#[110,111,10]⟩]) ?_ rfl ⟨v,rfl,d,m⟩;simp[results,Ty,go_sem]
def OV{v:τ}{T L:E Wh}(h:vV D i)(m:i<D.size)(f:bj X v L)(n:aM θ 49 #[v,.string (D.extract 0 i),.string (D.extract (i+1) D.size)] X (gC X η η T))(o:∀d,Fr (au X) X d->aM θ 50 #[v,.string (D.extract 0 i),.string (D.extract (i+1) D.size)] d (gm d (.string ⟨(l++[10]).toArray⟩))):aM θ 20 #[v,.string D] X (iL X (L,l)):=by
 have mixed:=mixed;obtain⟨_,C,g,j⟩:=h;have j:=j m;have G:(D.size:Z)<=1000:=by omega
 have u:(i:Z)<D.size:=by omega
 go_enter Tg,Tt
 go_wp2_with fail
 go_loopw [6] (λa wr=>∃q:O,q<=i/\a=.int .i64 q/\wr=X) (λa _=>i-(intOf a).toNat)
 case atStart=>exact⟨0,ej _,rfl,rfl⟩
 case round=>
  obtain⟨q,x,rfl,rfl⟩:=hrel;by_cases c:q<i
  ·have y:(q:Z)<D.size:=by omega
   obtain⟨b,z,A⟩:=g q c;clear g j n o
   go_wp2_with fail
   exact⟨⟨q+1,by omega,by simp⟩,by simp[intOf];omega⟩
  ·obtain rfl:q=i:=by omega
   have B:¬(q:Z)=D.size:=by omega
   clear g x c m
   go_wp2_with (first|(go_at_call 49;refine n.mono ?_;rintro e d ⟨H,rfl,_,p⟩)|(go_at_call 50;refine(o _ ‹_›).mono ?_;rintro e I ⟨rfl,r⟩;replace f:=f.below (dr p r)))
   refine gl (v:=.tuple #[v,.string ⟨(l++[10]).toArray⟩]) ?_ rfl ⟨v,rfl,f,dr p r⟩;simp[results,Ty,go_sem]
def ci:mN:=λa=>bif a==[115,101,116]then xr else bif a==[97,100,100]then BU else bif a==[116,105,109,101,115]then EY else bif a==[105,110]then na ε else bif a==[111,117,116]then na η else bif a==[116,117,114,110]then E2 else bif a==[108,97,116,101,114]then C9 else bif a==[102,97,115,116,101,114]then CF else bif a==[98,97,99,107]then uh else bif a==[109,105,114,114,111,114]then uL else bif a==[115,104,111,119]then xu else bif a==[102,111,108,100]then ww else bif a==[112,101,114,105,111,100]then xf else bif a==[97,116]then m9 else bif a==[103,114,105,100]then mZ else bif a==[97,114,101,97]then mR else bif a==[115,117,109]then sc else bif a==[112,108,111,116]then s_ else λ_ _=>ζ
abbrev ayD:E υ:=[119,104,97,116]
variable {q:ξ}
def jF{a:mN}{l W r:E υ}{f:FuncId}(b:e_ l [32]=(W,r,q))(c:nd W=γ (q,f)):jZ a L l=mQ L (a W L r):=by unfold jZ;simp only[b,c,aeD,a6];cases a W L r<;>rfl
def OU{c:mN}{l W r:E υ}(d:e_ l [32]=(W,r,q))(g:∀f,nd W≠γ (q,f)):jZ c L l=(L,ayD):=by
 unfold jZ;simp only[d];cases h:nd W with
 |none=>rfl
 |some x=>
  obtain⟨a,f⟩:=x;have b:(a==q)=η:=cq.2 λe=>g f (by rw[h,e])
  simp only[b,be]
def uG{v:τ}{T L:E Wh}(h:vV D i)(a:i<D.size)(c:bj X v L)(b:aM θ 49 #[v,.string (D.extract 0 i),.string (D.extract (i+1) D.size)] X (gC X ε q T)):aM θ 20 #[v,.string D] X (iL X (mQ L (bif q then γ (T,[111,107])else ζ))):=by
 cases q with
 |true=>exact ant h a b
 |false=>exact anr h a c b
def Iu{v:τ}{T L:E Wh}{x:χ (E Wh×E υ)}(h:vV D i)(b:i<D.size)(c:bj X v L)(d:aM θ 49 #[v,.string (D.extract 0 i),.string (D.extract (i+1) D.size)] X (gC X η η T))(f:∀y,x=γ y->y.1=L)(e:∀a,Fr (au X) X a->aM θ 50 #[v,.string (D.extract 0 i),.string (D.extract (i+1) D.size)] a (gm a (.string (tg x)))):aM θ 20 #[v,.string D] X (iL X (mQ L x)):=by
 cases x with
 |none=>exact OV h b c d e
 |some y=>obtain⟨A,t⟩:=y;obtain rfl:A=L:=f _ rfl;exact OV h b c d e
def ab6{W:E υ}{sp:ξ}{f:FuncId}(h:nd W=γ (sp,f)):(W=[115,101,116]/\sp=ε)\/(W=[97,100,100]/\sp=ε)\/(W=[116,105,109,101,115]/\sp=ε)\/(W=[105,110]/\sp=ε)\/(W=[111,117,116]/\sp=ε)\/(W=[116,117,114,110]/\sp=ε)\/(W=[108,97,116,101,114]/\sp=ε)\/(W=[102,97,115,116,101,114]/\sp=ε)\/(W=[98,97,99,107]/\sp=η)\/(W=[109,105,114,114,111,114]/\sp=η)\/(W=[115,104,111,119]/\sp=η)\/(W=[102,111,108,100]/\sp=η)\/(W=[112,101,114,105,111,100]/\sp=η)\/(W=[97,116]/\sp=ε)\/(W=[103,114,105,100]/\sp=ε)\/(W=[97,114,101,97]/\sp=ε)\/(W=[115,117,109]/\sp=η)\/(W=[112,108,111,116]/\sp=ε):=by have c:=Q9 h;unfold rK at c;simp only[dE,cI,iX,oC]at c;rcases c with⟨a,b,_⟩|⟨a,b,_⟩|⟨a,b,_⟩|⟨a,b,_⟩|⟨a,b,_⟩|⟨a,b,_⟩|⟨a,b,_⟩|⟨a,b,_⟩|⟨a,b,_⟩|⟨a,b,_⟩|⟨a,b,_⟩|⟨a,b,_⟩|⟨a,b,_⟩|⟨a,b,_⟩|⟨a,b,_⟩|⟨a,b,_⟩|⟨a,b,_⟩|⟨a,b,_⟩<;>subst a<;>subst b<;>decide
def ajp(s:ρ)(k:O):(s.extract 0 k).toList=s.data.toList.take k:=by rw[pq,adc,ay4,adS];simp
def vl(h:D.toList=l):D=⟨l.toArray⟩:=by apply qI;rw[<-pq,h]
def arR(h:D.data.toList=l):D=⟨l.toArray⟩:=qI (by rw[h])
def agx{v:τ}(s:ρ)(d:bj X v L)(C:bK L)(B:a4 (au X) X)(hs:s.size<=1000)(p:ii s.data.toList<s.data.toList.length):aM θ 20 #[v,.string s] X (iL X (jZ ci L s.data.toList)):=by
 have R:=kX s;have A:=YP hs;have g:=ahG p;rw[R]at p;have I:=VA s (ii s.data.toList+1);have a:=ajp s (ii s.data.toList);have D:(s.extract (ii s.data.toList+1) s.size).size<=1000:=by rw[tA];omega
 generalize ii s.data.toList=k at*;generalize s.data.toList.take k=W at*;generalize U:s.data.toList.drop (k+1)=r at*;have P:=arR I;have Q:∀(q:ρ->ψ->Prop),True:=λ_=>trivial
 clear Q;by_cases t:W=[115,101,116]
 ·rw[t]at a g
  rw[jF g (f:=27) rfl];have u:=agi (s.extract (k+1) s.size) a d C B D;have e:ci [115,101,116] L r=bif dJ (s.extract (k+1) s.size)then γ (b6 (s.extract (k+1) s.size),[111,107])else ζ:=by rw[P];rfl
  rw[e];exact uG A p d u
 by_cases x:W=[97,100,100]
 ·rw[x]at a g
  rw[jF g (f:=28) rfl];have u:=agb (s.extract (k+1) s.size) a d C B D;have e:ci [97,100,100] L r=bif dJ (s.extract (k+1) s.size)&&gZ L (b6 (s.extract (k+1) s.size))then γ (iT L (b6 (s.extract (k+1) s.size)),[111,107])else ζ:=by rw[P];rfl
  rw[e];exact uG A p d u
 by_cases h:W=[116,105,109,101,115]
 ·rw[h]at a g
  rw[jF g (f:=29) rfl];have u:=agj (s.extract (k+1) s.size) a d C B D;have e:ci [116,105,109,101,115] L r=bif dJ (s.extract (k+1) s.size)&&fC L (b6 (s.extract (k+1) s.size))then γ (iU L (b6 (s.extract (k+1) s.size)),[111,107])else ζ:=by rw[P];rfl
  rw[e];exact uG A p d u
 by_cases G:W=[105,110]
 ·rw[G]at a g
  rw[jF g (f:=30) rfl];have u:=agd (s.extract (k+1) s.size) a d C B D;have e:ci [105,110] L r=bif ja (s.extract (k+1) s.size) ε then γ (jK (s.extract (k+1) s.size) ε,[111,107])else ζ:=by
   show na ε L r=_
   unfold na ja jK;rw[I];cases cS 3 r<;>rfl
  rw[e];exact uG A p d u
 by_cases z:W=[111,117,116]
 ·rw[z]at a g
  rw[jF g (f:=31) rfl];have u:=agh (s.extract (k+1) s.size) a d C B D;have e:ci [111,117,116] L r=bif ja (s.extract (k+1) s.size) η then γ (jK (s.extract (k+1) s.size) η,[111,107])else ζ:=by
   show na η L r=_
   unfold na ja jK;rw[I];cases cS 3 r<;>rfl
  rw[e];exact uG A p d u
 by_cases j:W=[116,117,114,110]
 ·rw[j]at a g
  rw[jF g (f:=32) rfl];have u:=agk (s.extract (k+1) s.size) a d C B D;have e:ci [116,117,114,110] L r=bif cS 1 (s.extract (k+1) s.size).data.toList&&yT (aN (s.extract (k+1) s.size).data.toList 0) L then γ (tT (aN (s.extract (k+1) s.size).data.toList 0) L,[111,107])else ζ:=by rw[I];rfl
  rw[e];exact uG A p d u
 by_cases i:W=[108,97,116,101,114]
 ·rw[i]at a g
  rw[jF g (f:=33) rfl];have u:=age (s.extract (k+1) s.size) a d C B D;have e:ci [108,97,116,101,114] L r=bif cS 1 (s.extract (k+1) s.size).data.toList&&yL (aN (s.extract (k+1) s.size).data.toList 0) L then γ (tL (aN (s.extract (k+1) s.size).data.toList 0) L,[111,107])else ζ:=by rw[I];rfl
  rw[e];exact uG A p d u
 by_cases b:W=[102,97,115,116,101,114]
 ·rw[b]at a g
  rw[jF g (f:=34) rfl];have u:=agc (s.extract (k+1) s.size) a d C B D;have e:ci [102,97,115,116,101,114] L r=bif cS 1 (s.extract (k+1) s.size).data.toList&&yF (aN (s.extract (k+1) s.size).data.toList 0) L then γ (tF (aN (s.extract (k+1) s.size).data.toList 0) L,[111,107])else ζ:=by rw[I];rfl
  rw[e];exact uG A p d u
 have M:aM θ 49 #[v,.string (s.extract 0 k),.string (s.extract (k+1) s.size)] X (gC X η η L):=agf _ (by rw[a];exact cq.2 t) (by rw[a];exact cq.2 x) (by rw[a];exact cq.2 h) (by rw[a];exact cq.2 G) (by rw[a];exact cq.2 z) (by rw[a];exact cq.2 j) (by rw[a];exact cq.2 i) (by rw[a];exact cq.2 b);by_cases H:W=[97,116]
 ·rw[H]at a g
  rw[jF g (f:=40) rfl];have e:ci [97,116] L r=m9 L (s.extract (k+1) s.size).data.toList:=by rw[I];rfl
  rw[e];refine Iu A p d M (λy o=>?_) λN f=>?_
  ·unfold m9 at o
   generalize(cS _ _&&_)=c at o;cases c with
   |true=>cases o;rfl
   |false=>cases o
  ·rw[vl a]
   exact af2 _ (d.below f) (dI C) (B.fw f) D
 by_cases l:W=[103,114,105,100]
 ·rw[l]at a g
  rw[jF g (f:=41) rfl];have e:ci [103,114,105,100] L r=mZ L (s.extract (k+1) s.size).data.toList:=by rw[I];rfl
  rw[e];refine Iu A p d M (λy o=>?_) λN f=>?_
  ·unfold mZ at o
   generalize(cS _ _&&_)=c at o;cases c with
   |true=>cases o;rfl
   |false=>cases o
  ·rw[vl a]
   exact af3 _ (d.below f) (dI C) (B.fw f) D
 by_cases m:W=[97,114,101,97]
 ·rw[m]at a g
  rw[jF g (f:=42) rfl];have e:ci [97,114,101,97] L r=mR L (s.extract (k+1) s.size).data.toList:=by rw[I];rfl
  rw[e];refine Iu A p d M (λy o=>?_) λN f=>?_
  ·unfold mR at o
   generalize(cS _ _&&_)=c at o;cases c with
   |true=>cases o;rfl
   |false=>cases o
  ·rw[vl a]
   exact af1 _ (d.below f) (dI C) (B.fw f) D
 by_cases n:W=[112,108,111,116]
 ·rw[n]at a g
  rw[jF g (f:=44) rfl];have e:ci [112,108,111,116] L r=s_ L (s.extract (k+1) s.size).data.toList:=by rw[I];rfl
  rw[e];refine Iu A p d M (λy o=>?_) λN f=>?_
  ·unfold s_ at o
   obtain⟨T,_,rfl⟩:=dL.1 o;rfl
  ·rw[vl a]
   exact af5 _ (d.below f) (B.fw f)
 rw[OU g λf S=>?_]
 ·refine OV A p d M λN _=>af4 _ N (by rw[a];exact cq.2 H) (by rw[a];exact cq.2 l) (by rw[a];exact cq.2 m) (by rw[a];exact cq.2 n)
 ·have:=ab6 S
  simp only[t,x,h,G,z,j,i,b,H,l,m,n,false_and,and_false,Bool.true_eq_false,or_self]at this
def agy{v:τ}(s:ρ)(k:bj X v L)(l:bK L)(m:a4 (au X) X)(hs:s.size<=1000)(n:ii s.data.toList=s.data.toList.length):aM θ 20 #[v,.string s] X (iL X (jZ ci L s.data.toList)):=by
 have p:=kX s;have o:=YP hs;rw[n,p]at o;have j:=ahF n;have i:s.toList=s.data.toList:=pq s;generalize s.data.toList=W at*;refine anq o ?_;by_cases c:W=[98,97,99,107]
 ·rw[c]at i j
  rw[c,jF j (f:=35) rfl];have e:ci [98,97,99,107] L []=uh L []:=rfl;rw[e];exact af6 i k l m
 by_cases a:W=[109,105,114,114,111,114]
 ·rw[a]at i j
  rw[a,jF j (f:=36) rfl];have e:ci [109,105,114,114,111,114] L []=uL L []:=rfl;rw[e];exact af8 i k l m
 by_cases d:W=[115,104,111,119]
 ·rw[d]at i j
  rw[d,jF j (f:=37) rfl];have e:ci [115,104,111,119] L []=xu L []:=rfl;rw[e];rw[vl i];exact af' k l m
 by_cases g:W=[102,111,108,100]
 ·rw[g]at i j
  rw[g,jF j (f:=38) rfl];have e:ci [102,111,108,100] L []=ww L []:=rfl;rw[e];rw[vl i];exact af7 k l m
 by_cases b:W=[112,101,114,105,111,100]
 ·rw[b]at i j
  rw[b,jF j (f:=39) rfl];have e:ci [112,101,114,105,111,100] L []=xf L []:=rfl;rw[e];rw[vl i];exact af_ k l m
 by_cases h:W=[115,117,109]
 ·rw[h]at i j
  rw[h,jF j (f:=43) rfl];have e:ci [115,117,109] L []=sc L []:=rfl;rw[e];rw[vl i];exact aga k l m
 rw[OU j λf q=>?_]
 ·exact af9 (by rw[i];exact cq.2 c) (by rw[i];exact cq.2 a) (by rw[i];exact cq.2 d) (by rw[i];exact cq.2 g) (by rw[i];exact cq.2 b) (by rw[i];exact cq.2 h) k
 ·have:=ab6 q
  simp only[c,a,d,g,b,h,false_and,and_false,tz,or_self]at this
def agz{v:τ}(s:ρ)(a:bj X v L)(b:bK L)(c:a4 (au X) X)(hs:s.size<=1000):aM θ 20 #[v,.string s] X (iL X (jZ ci L s.data.toList)):=by
 by_cases d:ii s.data.toList<s.data.toList.length
 ·exact agx s a b c hs d
 ·exact agy s a b c hs (by have:=QM s.data.toList;omega)
def iZ(S:E Wh->E υ->χ (E Wh×E υ)):Prop:=∀L r x,bK L->S L r=γ x->bK x.1/\x.2.length<=4000
def nQ{r:E υ}{S:E Wh->E υ->χ (E Wh×E υ)}{y x:E Wh×E υ}(e:S L r=bif q then γ y else ζ)(h:q=ε->bK y.1/\y.2.length<=4000)(a:S L r=γ x):bK x.1/\x.2.length<=4000:=by
 rw[e]at a;cases q with
 |true=>cases a;exact h rfl
 |false=>cases a
def s6:([111,107]:E υ).length<=4000:=by decide
def EZ:∀a:E Z,(∀n∈a,lZ n)->(fV a).length<=21*a.length
 |[],_=>by simp[fV,iW]
 |[n],h=>by rw[acm];have:=gP (h n jA);simp;omega
 |n::m::a,h=>by
  have e:fV (n::m::a)=bg n++([32]++fV (m::a)):=by simp[fV,iW]
  have b:=EZ (m::a) λx c=>h x (l8 _ c)
  have:=gP (h n jA);rw[e];simp only[bN,bZ,eY]at b⊢;omega
def amz:iZ xr:=λ_ _ _ _ a=>nQ (S:=xr) rfl (λ_=>⟨AR _,s6⟩) a
def amm:iZ BU:=λ_ _ _ _ a=>nQ (S:=BU) rfl (λh=>⟨(abO (by rw[aP]at h;exact h.2)).1,s6⟩) a
def amC:iZ EY:=λ_ _ _ _ a=>nQ (S:=EY) rfl (λh=>⟨(aci (by rw[aP]at h;exact h.2)).1,s6⟩) a
def Yu(c:ξ):iZ (na c):=λ_ _ _ _ a=>nQ (S:=na c) rfl (λh=>⟨Qg (by rw[aP]at h;exact h.2),s6⟩) a
def amD:iZ E2:=λ_ _ _ _ a=>nQ (S:=E2) rfl (λh=>⟨sj (by omega) (by rw[aP]at h;exact h.2),s6⟩) a
def amu:iZ C9:=λ_ _ _ _ a=>nQ (S:=C9) rfl (λh=>⟨sj (by omega) (by rw[aP]at h;exact h.2),s6⟩) a
def amr:iZ CF:=λ_ _ _ _ a=>nQ (S:=CF) rfl (λh=>⟨abZ (by rw[aP]at h;exact h.2),s6⟩) a
def amp:iZ uh:=λ_ _ _ _ a=>nQ (S:=uh) rfl (λh=>⟨sj (by omega) h,s6⟩) a
def amv:iZ uL:=λ_ _ _ _ a=>nQ (S:=uL) rfl (λh=>⟨sj (by omega) h,s6⟩) a
def amA:iZ xu:=λL _ x a b=>by unfold xu at b;cases b;have:=Q' a;exact⟨a,by show(ef L).data.toList.length<=4000;rw[kX];omega⟩
def ams:iZ ww:=λL _ x a b=>by unfold ww at b;cases b;have:=gP (n:=jT L) (by have:=M8 a;omega);exact⟨a,by show(bg (jT L)).length<=4000;omega⟩
def amx:iZ xf:=λL _ x a b=>by unfold xf at b;cases b;have:=gP (n:=j4 L) (by have:=PR a;omega);exact⟨a,by show(bg (j4 L)).length<=4000;omega⟩
def amo:iZ m9:=λL r x b c=>nQ (S:=m9) rfl (λh=>by
 rw[aP]at h;have:=EZ (qG (jg L (aN r 0))) λn a=>by unfold qG at a;simp only[dE,iX,oC]at a;rcases a with rfl|rfl|rfl|rfl|rfl|rfl|rfl|rfl<;>exact Mp h.2 (by omega)
 exact⟨b,by show(fV (qG (jg L (aN r 0)))).length<=4000;have e:(qG (jg L (aN r 0))).length=8:=rfl;omega⟩) c
def amt:iZ mZ:=λL r x b c=>nQ (S:=mZ) rfl (λ_=>by
 have:=EZ [Ib L (aN r 0) (aN r 1),Ic L (aN r 0) (aN r 1)] λn a=>by
  simp only[dE,iX,oC]at a;rcases a with rfl|rfl
  ·exact(Ia _ _ _).1
  ·exact(Ia _ _ _).2
 simp only[bZ,eY]at this;exact⟨b,cF this (by omega)⟩) c
def amn:iZ mR:=λL r x b c=>nQ (S:=mR) rfl (λh=>by
 rw[aP,aP]at h;have:=EZ [nx (ic L (aN r 0)) 0,nx (ic L (aN r 0)) 1,nx (ic L (aN r 0)) 2,nx (ic L (aN r 0)) 3] λn a=>by simp only[dE,iX,oC]at a;rcases a with rfl|rfl|rfl|rfl<;>exact yU h.2.2 (by omega)
 simp only[bZ,eY]at this;exact⟨b,cF this (by omega)⟩) c
def amB:iZ sc:=λL r x a b=>nQ (S:=sc) (r:=r) rfl (λ_=>by have:=gP (n:=fd L) (by have:=Vf L;omega);exact⟨a,by show(bg (fd L)).length<=4000;omega⟩) b
def amy:iZ s_:=λL r x c a=>by
 unfold s_ at a;obtain⟨T,d,rfl⟩:=dL.1 a;have e:=PQ T;have f:=ET d;have:=EZ [(cW T).x,(cW T).y,((cW T).t:Z)] λn b=>by simp only[dE,iX,oC]at b;rcases b with rfl|rfl|rfl<;>omega
 simp only[bZ,eY]at this;exact⟨c,cF this (by omega)⟩
def amw:iZ λ_ _=>ζ:=λ_ _ _ _ a=>by cases a
def kA{A B:E Wh->E υ->χ (E Wh×E υ)}(h:iZ A)(k:iZ B):iZ (bif q then A else B):=by
 cases q with
 |true=>exact h
 |false=>exact k
def aml(a:E υ):iZ (ci a):=kA amz (kA amm (kA amC (kA (Yu ε) (kA (Yu η) (kA amD (kA amu (kA amr (kA amp (kA amv (kA amA (kA ams (kA amx (kA amo (kA amt (kA amn (kA amB (kA amy amw)))))))))))))))))
def YO(a:bK L)(l:E υ):bK (jZ ci L l).1/\(jZ ci L l).2.length<=4000:=by
 unfold jZ;split
 ·rename_i r f _
  cases(r==(e_ l [32]).2.2)with
  |true=>
   rw[a6];split
   ·rename_i x b
    exact aml _ _ _ _ a b
   ·exact⟨a,by show(2:O)<=4000;omega⟩
  |false=>exact⟨a,by show(4:O)<=4000;omega⟩
 ·exact⟨a,by show(4:O)<=4000;omega⟩
def zc:∀a:E (E υ),bK (dM ci a).1/\(dM ci a).2.length<=4001*a.length:=by
 intro a;have b:∀(a:E (E υ))(x:E Wh×E υ),bK x.1->bK (a.foldl (nb ci) x).1/\(a.foldl (nb ci) x).2.length<=x.2.length+4001*a.length:=by
  intro a;induction a with
  |nil=>intro x c;exact⟨c,aQ _⟩
  |cons l a d=>intro x c;obtain⟨e,h⟩:=YO c l;obtain⟨f,g⟩:=d (nb ci x l) e;refine⟨f,cF g ?_⟩;unfold nb;simp only[bN,bZ,eY];omega
 have:=b a ([],[]) zJ;simpa[dM]using this
def anv(s:ρ):dq s.data.toList=cY (b_ s 10 s.size).1:=by have h:=Cb s 10;have a:(((10:υ).toNat:O):Z)=10:=rfl;rw[a]at h;unfold eD at h;rw[b_,pi,show((s.size:Z)==(s.size:Z))=ε from aeD _,Bool.true_or,a6]at h;have c:=tN (Fq λb:ρ=>b.data.toList) h;simp only[kP,rR,eG,kQ]at c;have d:Fq ((λb:ρ=>b.data.toList) ∘λl:E υ=>(⟨l.toArray⟩:ρ)) (cD 10 s.data.toList)=cD 10 s.data.toList:=List.map_id' _;rw[d]at c;unfold dq;rw[<-c,adQ]
def bj.len{v:τ}(h:bj X v L):∃p c,v=.slice p L.length c:=by obtain⟨b,_,a,_⟩:=h;simp only[VR]at a;obtain⟨p,c,e,_⟩:=a;exact⟨p,c,e⟩
def bj.empty(w:ψ)(p:χ Addr):bj w (.slice p 0 0) []:=by refine⟨λ_=>ζ,λi b h=>(by cases h),?_,.inl ⟨rfl,rfl,rfl⟩⟩;simp only[VR];exact⟨p,0,rfl,by simp,aQ _,λh=>aR h (ol 0)⟩
def agm(n:Z)(h:lZ n)(a:a4 (au X) X):aM θ 21 #[ι n] X (gm X (.string (bE n))):=
 JD z8 [ι n] (δ:={val:=.v (.string (bE n)),aw:=[xc n]}) rfl rfl (by simp only[Ω,ax,aj];exact jm h) rfl rfl a
def ahA(_:i<D.size)(a:bY D i=10):b_ D 10 (i+1)=((b_ D 10 i).1++[D.extract (b_ D 10 i).2 i],i+1):=by rw[b_,pi,a];simp
def ahz(b:i<D.size)(a:bY D i≠10):b_ D 10 (i+1)=b_ D 10 i:=by rw[b_,pi,show((i:Z)==(D.size:Z))=η from cq.2 (by omega),show(bY D i==10)=η from cq.2 a];rfl
def agp(s:ρ)(T:a4 (au X) X)(hs:s.size<=900):aM θ 8 #[.string s] X (gm X (.string (GP ci s))):=by
 have mixed:=mixed;have hs1:(s.size:Z)<=900:=by omega
 have hsl:=kX s
 go_enter aey,ntmps8
 go_wp2_with fail
 go_loopw [3,4,5,6] (λd o f i wr=>∃(q:O)(a:E Wh×E υ),q<=s.size/\i=.int .i64 q/\f=.int .i64 ((b_ s 10 q).2:O)/\o=.string ⟨a.2.toArray⟩/\a=dM ci (cY (b_ s 10 q).1)/\bj wr d a.1/\bK a.1/\Fr (au X) X wr) (λ_ _ _ i _=>s.size-(intOf i).toNat)
 case atStart=>exact⟨0,([],[]),ej _,rfl,rfl,rfl,rfl,bj.empty _ _,zJ,eZ (fJ X _ ζ) λk e=>by cases e⟩
 case round=>
  obtain⟨q,a,hq,rfl,rfl,rfl,j,G,v,x⟩:=hrel;by_cases A:q<s.size
  ·have P:(q:Z)<s.size:=by omega
   have l:=λW=>Qu s q (by omega) W
   have m:=B9 s (i:=q) (by omega);have Q:=(se s 10 q);by_cases H:bY s q=10
   ·have B:∀W,(xU 9 (.string s) (ι q)).run θ W=.ok (.int .u8 10) W:=λW=>by have:=l W;rw[cX,df (by omega),iK,<-m,H]at this;exact this
    have c:=ahA A H;have hL:=agz (s.extract (b_ s 10 q).2 q) G v (T.fw x) (by rw[tA];omega);have U:=YO v (s.extract (b_ s 10 q).2 q).data.toList;have g:=(zc (cY (b_ s 10 q).1)).2;rw[<-j]at g;have R:(cY (b_ s 10 q).1).length<=901:=by rw[dv];omega
    have C:dM ci (cY (b_ s 10 (q+1)).1)=nb ci a (s.extract (b_ s 10 q).2 q).data.toList:=by rw[c];unfold cY at j⊢;rw[kP,eG,kQ,GQ,<-j]
    unfold nb at C;have I:((b_ s 10 (q+1)).2:Z)=(q:Z)+1:=by rw[c];omega
    have w:((b_ s 10 q).2:Z)<=q:=by omega
    generalize jZ ci a.1 (s.extract (b_ s 10 q).2 q).data.toList=y at*;generalize(b_ s 10 q).2=p at*;have next:∀u L,bj u L y.1->Fr (au wr) wr u->∃(r:O)(t:E Wh×E υ),r<=s.size/\jc .i64 ((q:Z)+1)=.int .i64 r/\jc .i64 ((q:Z)+1)=.int .i64 ((b_ s 10 r).2:O)/\b9 ((⟨a.2.toArray⟩:ρ)++⟨(y.2++[10]).toArray⟩)=.string ⟨t.2.toArray⟩/\t=dM ci (cY (b_ s 10 r).1)/\bj u L t.1/\bK t.1/\Fr (au X) X u:=λu L h f=>⟨q+1,(y.1,a.2++(y.2++[10])),by omega,by simp,by rw[I],by rw[v_],C.symm,h,U.1,dr x f⟩
    have hyl:a.2.length+(y.2.length+1)<=100000000:=by omega
    clear c j C G v x m U g R I H l
    go_wp2_with (go_at_call 20;refine hL.mono ?_;rintro e u ⟨L,rfl,S,g2⟩;replace next:=next u L S g2)
    exact⟨next,by simp[intOf];omega⟩
   ·have B:∃b:Z,(∀W,(xU 9 (.string s) (ι q)).run θ W=.ok (.int .u8 b) W)/\b≠10:=by refine⟨_,λW=>l W,λe=>H ?_⟩;rw[cX,df (by omega),iK]at e;rw[m];exact e
    obtain⟨b,B,hb2⟩:=B;have c:=ahz A H;have next:∃(r:O)(t:E Wh×E υ),r<=s.size/\jc .i64 ((q:Z)+1)=.int .i64 r/\jc .i64 ((b_ s 10 q).2:O)=.int .i64 ((b_ s 10 r).2:O)/\b9 ⟨a.2.toArray⟩=.string ⟨t.2.toArray⟩/\t=dM ci (cY (b_ s 10 r).1)/\bj wr u3 t.1/\bK t.1/\Fr (au X) X wr:=
     ⟨q+1,a,by omega,by simp,by rw[c],rfl,by rw[c];exact j,G,v,x⟩
    clear c j G v x m H l Q;generalize(b_ s 10 q).2=p at*
    go_wp2_with fail
    exact⟨next,by simp[intOf];omega⟩
  ·have M:q=s.size:=by omega
   obtain⟨pp,cc,rfl⟩:=G.len;have h12:=dI v;have hd:=agm a.1.length (by omega) (T.fw x);have hsz:(bE a.1.length).size<=20:=by rw[show(bE a.1.length).size=(bg a.1.length).length from rfl];exact gP (by omega)
   have g:=(zc (cY (b_ s 10 q).1)).2;rw[<-j]at g;have R:(cY (b_ s 10 q).1).length<=901:=by rw[dv];have:=se s 10 q;omega
   have hx2:a.2.length<=10000000:=by omega
   have N:GP ci s=(⟨a.2.toArray⟩:ρ)++⟨#[119,104,101,101,108,115,32]⟩++bE a.1.length++⟨#[10]⟩:=by unfold GP;rw[anv,<-M,<-j,show(⟨#[119,104,101,101,108,115,32]⟩:ρ)=⟨([119,104,101,101,108,115,32]:E υ).toArray⟩from rfl,show(⟨#[10]⟩:ρ)=⟨([10]:E υ).toArray⟩from rfl,show bE a.1.length=⟨(bg a.1.length).toArray⟩from rfl,v_,v_,v_];unfold mW;simp only[jN]
   have P:¬(q:Z)<s.size:=by omega
   clear G v j g R A M;generalize bE a.1.length=D at*;generalize a.1.length=n at*
   go_wp2_with (go_at_call 21;refine hd.mono ?_;rintro e u ⟨rfl,S⟩)
   go_ret
   exact⟨tN (λz=>Ending.returned (.string z)) N.symm,dr x S⟩
def agB(s:ρ)(w:ψ)(hs:900<s.size):aM θ 8 #[.string s] w (gm w (.string ⟨#[116,111,111,32,108,111,110,103,10]⟩)):=by
 have mixed:=mixed;have a:900<(s.size:Z):=by omega
 go_enter aey,ntmps8
 go_wp2
 go_ret
 exact⟨rfl,Fr.refl _ _⟩
def ayI:∀x∈rK,jC x.2.2 (ci x.1):=by
 intro x a;unfold rK at a;simp only[dE,iX,oC]at a;rcases a with rfl|rfl|rfl|rfl|rfl|rfl|rfl|rfl|rfl|rfl|rfl|rfl|rfl|rfl|rfl|rfl|rfl|rfl
 all_goals first
  |exact @ag8|exact @ag9|exact @ahk|exact @ag'|exact @aha|exact @ahb|exact @ahc|exact @ahe|exact @ahf|exact @ahg|exact @ahh|exact @ahi|exact @ahj|exact @ahl|exact @ahm|exact @ahn|exact @ahp|exact @ahq
def anp(line:E υ):BS ci line:=λ_ _ h _=>ayI _ (Q9 h)
def aiV(hs:D.size<=900):MB ci D=ε:=by
 have a:=kX D;have b:(dq D.data.toList).length<=901:=by unfold dq;have:=y7 10 D.data.toList;rw[J6];omega
 refine VJ.2 ⟨hs,λl _=>anp l,λk=>?_,λk=>?_⟩
 ·have c:=(zc ((dq D.data.toList).take k)).2
  have d:((dq D.data.toList).take k).length<=901:=by rw[pz];omega
  omega
 ·have:=dI (zc ((dq D.data.toList).take k)).1
  omega
def O0:ρ:=⟨#[116,111,111,32,108,111,110,103,10]⟩
def ie(s:ρ):ρ:=if s.size<=900 then GP ci s else O0
def aqU:ak θ 7 (aW (yO ie)):=by
 refine n4 (λargs w=>enters 7 Tryz.f7 Tryz.func7 rfl args w) λl x m a n w c=>?_
 unfold yO at a;split at a
 ·rename_i s
  cases a;unfold ie;by_cases b:s.size<=900
  ·rw[aU b]
   obtain⟨d,g,i,j⟩:=VJ.1 (aiV b);refine(agO s (c.mono λ_ _ h=>h) d g i j).mono ?_;rintro e k ⟨rfl,f⟩;exact⟨rfl,f.none⟩
  ·rw[bI b]
   refine(agA s w (by omega)).mono ?_;rintro e k ⟨rfl,f⟩;exact⟨rfl,f.none⟩
 ·cases a
def aqV:ak θ 8 (aW (yO ie)):=by
 refine n4 (λargs w=>enters 8 f8 aey rfl args w) λg x i a j w c=>?_
 unfold yO at a;split at a
 ·rename_i s
  cases a;unfold ie;by_cases b:s.size<=900
  ·rw[aU b]
   refine(agp s (c.mono λ_ _ h=>h) b).mono ?_;rintro e d ⟨rfl,f⟩;exact⟨rfl,f.none⟩
  ·rw[bI b]
   refine(agB s w (by omega)).mono ?_;rintro e d ⟨rfl,f⟩;exact⟨rfl,f.none⟩
 ·cases a
def UO(l:E υ)(i:O):(bY ⟨⟨l⟩⟩ (i:Z)==10)=(l[i]?==γ 10):=by
 have e:bY ⟨⟨l⟩⟩ (i:Z)=((l[i]?.getD 0).toNat:Z):=by unfold bY;simp only[cV,List.getElem!_toArray,List.getElem!_eq_getElem?_getD];rfl
 rw[e];cases l[i]?with
 |none=>rfl
 |some b=>rw[iK,kg,fm,fm,aC];refine⟨λh=>FM.1 (show b.toNat=(10:υ).toNat from ?_),λh=>by rw[h];rfl⟩;have:(10:υ).toNat=10:=rfl;omega
def mV(A:E υ):Prop:=A=[]\/∃X,A=X++[10]
def Pg{A B C:E υ}(a:mV A)(b:(10:υ)∉B):∀k,k<=B.length->i7 ⟨⟨A++(B++C)⟩⟩ (A.length+k)=A.length
 |0,_=>by
  rcases a with rfl|⟨X,rfl⟩
  ·rfl
  ·rw[im,bN,J7,i7,UO,jN,oi (aQ _),Fz]
   rfl
 |k+1,c=>by
  rw[<-J',i7,UO,oi (by omega),Fu,kN (by omega),df (by omega)];have:(γ B[k]==γ (10:υ))=η:=by rw[cq];intro e;exact b (ov e▸ki _)
  rw[this,be,Pg a b k (by omega)]
def Ph:∀s:E υ,∃A B,s=A++B/\mV A/\(10:υ)∉B
 |[]=>⟨[],[],rfl,.inl rfl,iX⟩
 |c::t=>by
  obtain⟨A,B,rfl,b,a⟩:=Ph t;rcases b with rfl|⟨X,rfl⟩
  ·by_cases h:c=10
   ·exact⟨[10],B,by rw[h];rfl,.inr ⟨[],rfl⟩,a⟩
   ·exact⟨[],c::B,rfl,.inl rfl,λd=>(dE.1 d).elim (λe=>h e.symm) a⟩
  ·exact⟨c::(X++[10]),B,rfl,.inr ⟨c::X,rfl⟩,a⟩
def Vi(X a:E υ):cD 10 (X++10::a)=cD 10 X++cD 10 a:=by
 induction X with
 |nil=>simp[cD]
 |cons b X c=>
  rw[lq,cD,cD,c];split
  ·rfl
  ·cases h:cD 10 X with
   |nil=>exact aR h (Mg _ _)
   |cons y d=>rfl
def Dc(X:E υ)(a:(10:υ)∉l):dq (X++10::l)=cD 10 X:=by unfold dq;rw[Vi,sd l a,adQ]
def anx{A B:E υ}(b:mV A)(a:(10:υ)∉B):dq (A++B)=dq A:=by
 rcases b with rfl|⟨X,rfl⟩
 ·unfold dq
  rw[jO,sd B a];rfl
 ·rw[jN,azl,Dc X a,Dc X iX]
def anw{A w:E υ}(b:mV A)(a:(10:υ)∉w):dq (A++(w++[10]))=dq A++[w]:=by
 rcases b with rfl|⟨X,rfl⟩
 ·rw[jO,Dc w iX,sd w a]
  rfl
 ·rw[jN,azl,Dc X iX,show X++10::(w++[10])=(X++10::w)++10::[] by simp,Dc _ iX,Vi,sd w a]
def Mv(A w:E υ):mV (A++(w++[10])):=.inr ⟨A++w,by rw[jN]⟩
def aiW(a:E (E υ)):mV (dM ci a).2:=by
 rcases List.eq_nil_or_concat a with rfl|⟨l,x,rfl⟩
 ·exact .inl rfl
 ·rw[List.concat_eq_append,GQ]
  exact Mv _ _
def aiD(n:O):∃a,kt n=a++[10]/\(10:υ)∉a:=by
 refine⟨[119,104,101,101,108,115,32]++bg n,by rw[kt,jN],λh=>?_⟩;rcases nm.1 h with h|h
 ·exact aR h (by decide)
 ·exact aok _ h
def aol(b:mV l)(n:O):i7 ⟨⟨l++kt n⟩⟩ ((l++kt n).length-1)=l.length:=by
 obtain⟨a,c,d⟩:=aiD n;have e:(l++(a++[10])).length-1=l.length+a.length:=by simp
 rw[c,e];exact Pg b d _ (aQ _)
def anu(L:E Wh):jZ ci L [122,122,122]=(L,[119,104,97,116]):=OU (Mm (by decide)) λf h=>by cases h
def ayQ:dJ ⟨⟨[120]⟩⟩=η:=by kernel_rfl
def ans(L:E Wh):jZ ci L [115,101,116,32,120]=(L,[110,111]):=by
 have a:e_ [115,101,116,32,120] [32]=([115,101,116],[120],ε):=Ml (c:=32) (x:=[115,101,116]) (r:=[120]) (by decide);rw[jF a rfl];show mQ L (xr L [120])=_
 unfold xr;rw[ayQ];rfl
def YQ(L:E Wh):jZ ci L [115,104,111,119]=(L,(ef L).data.toList):=jF (Mm (by decide)) rfl
def Jf(h:l.length<=900):ie ⟨⟨l⟩⟩=⟨⟨mW (dM ci (dq l))⟩⟩:=aU h
def GS(l:E υ)(a b:O):(ah (ap l)).extract a b=ah (ap ((l.take b).drop a)):=by
 have:((ah (ap l)).extract a b).data=ap ((l.take b).drop a):=by rw[adc,List.extract_toArray,adS,List.drop_take]
 cases h:(ah (ap l)).extract a b;rw[h]at this;exact tN _ this
def Vh{A B:E υ}(a:mV A)(b:(10:υ)∉B):lC ⟨⟨A++B⟩⟩=⟨⟨A⟩⟩:=by have h:=Pg (C:=[]) a b B.length (aQ _);rw[vp]at h;have e:(ah (ap (A++B))).size=A.length+B.length:=bN;rw[lC,e,h,GS,J_,J0]
def amS(a:mV l)(n:O):q_ ⟨⟨l++kt n⟩⟩=⟨⟨kt n⟩⟩:=by have e:(ah (ap (l++kt n))).size=(l++kt n).length:=rfl;rw[q_,e,aol a,GS,Bp,R_]
def atH(h:D.size<=900):ie (lC D)=ie D:=by
 obtain⟨A,B,e,a,b⟩:=Ph D.data.toList;have d:D=⟨⟨A++B⟩⟩:=by rw[<-e]
 have c:(A++B).length<=900:=by rw[<-e];exact h
 rw[d,Vh a b,Jf c,Jf (by rw[bN]at c;omega),anx a b]
def ahw(s:ρ):∃A,lC s=⟨⟨A⟩⟩/\mV A/\A.length<=s.size:=by
 obtain⟨A,B,e,a,b⟩:=Ph s.data.toList;have c:s=⟨⟨A++B⟩⟩:=by rw[<-e]
 refine⟨A,by rw[c,Vh a b],a,?_⟩;have:s.size=(A++B).length:=by rw[<-e];rfl
 rw[this,bN];omega
def atK:ie ⟨⟨[]⟩⟩=⟨⟨[119,104,101,101,108,115,32,48,10]⟩⟩:=by
 have z:bg 0=[48]:=by rw[bg,gc,Lib.decDigits_one (by decide)];rfl
 rw[Jf (by decide)];show ah (ap ([119,104,101,101,108,115,32]++(bg 0++[10])))=_
 rw[z];rfl
def Ax(h:l.length<=900):ie ⟨⟨l⟩⟩=⟨⟨(dM ci (dq l)).2++kt (dM ci (dq l)).1.length⟩⟩:=Jf h
def Er{A w:E υ}(a:mV A)(b:(10:υ)∉w):dM ci (dq (A++(w++[10])))=nb ci (dM ci (dq A)) w:=by rw[anw a b,GQ]
def ayE(a:mV l)(h:l.length<=890):ie ⟨⟨l++[122,122,122,10,115,101,116,32,120,10]⟩⟩=⟨⟨(dM ci (dq l)).2++[119,104,97,116,10,110,111,10]++kt (dM ci (dq l)).1.length⟩⟩:=by
 rw[show l++[122,122,122,10,115,101,116,32,120,10]=(l++([122,122,122]++[10]))++([115,101,116,32,120]++[10]) by simp,Ax (by simp only[bN,bZ,eY];omega),
  Er (Mv _ _) (by decide),Er a (by decide)]
 simp only[nb,anu,ans];simp
def at0(a:mV l)(h:l.length<=890):ie ⟨⟨l++[115,104,111,119,10]⟩⟩=⟨⟨(dM ci (dq l)).2++((ef (dM ci (dq l)).1).data.toList++[10])++kt (dM ci (dq l)).1.length⟩⟩:=by rw[show l++[115,104,111,119,10]=l++([115,104,111,119]++[10])from rfl,Ax (by simp only[bN,bZ,eY];omega),Er a (by decide)];simp only[nb,YQ]
def at1(a:mV l)(h:l.length<=890):ie ⟨⟨l++[115,104,111,119,10,115,104,111,119,10]⟩⟩=⟨⟨(dM ci (dq l)).2++((ef (dM ci (dq l)).1).data.toList++[10])++((ef (dM ci (dq l)).1).data.toList++[10])++kt (dM ci (dq l)).1.length⟩⟩:=by
 rw[show l++[115,104,111,119,10,115,104,111,119,10]=(l++([115,104,111,119]++[10]))++([115,104,111,119]++[10]) by simp,Ax (by simp only[bN,bZ,eY];omega),
  Er (Mv _ _) (by decide),Er a (by decide)]
 simp only[nb,YQ]
def atM(s:ρ):(ie s).size<=4000000:=by
 unfold ie;split
 ·rename_i h
  have b:=kX s;have c:(dq s.data.toList).length<=901:=by unfold dq;have:=y7 10 s.data.toList;rw[J6];omega
  have a:=zc (dq s.data.toList);have d:=dI a.1;have e:=C7 (dM ci (dq s.data.toList)).1.length (by omega) (by omega);show(mW (dM ci (dq s.data.toList))).length<=_
  unfold mW;simp only[kt,bN,bZ,eY];have:=a.2;omega
 ·exact(by decide:(9:O)<=4000000)
def atJ(s:ρ):cm (ie s) (ah (ap []))=η:=by
 have:(ie s).size≠0:=by
  unfold ie;split
  ·show(mW (dM ci (dq s.data.toList))).length≠0
   unfold mW;simp only[kt,bN,bZ,eY];omega
  ·exact(by decide:(9:O)≠0)
 refine gN λh=>this ?_
 have a:=tN List.length h;rw[pq,pq,lm]at a;exact a
def amT(h:l.length<=900):q_ (ie ⟨⟨l⟩⟩)=⟨⟨kt (dM ci (dq l)).1.length⟩⟩:=by rw[Ax h,amS (aiW _)]
def Vm(a b:E υ):(ah (ap (a++b))).extract 0 a.length=ah (ap a):=by rw[GS,J_,J0]
def ahB(a S b:E υ):(ah (ap (a++S++b))).extract a.length (a++S).length=ah (ap S):=by rw[GS,J_,R_]
def Mu(a b:E υ)(c:a.length<=5000000)(d:b.length<=100):IntKind.wrap IntKind.i64 (((ah (ap (a++b))).size:Z) -((ah (ap b)).size:Z))=(a.length:Z):=by rw[Jl,Jl,bN,bz];omega
def abp{s:ρ}(h:(lC s).size<=890):∃a S b:E υ,b.length<=100/\a.length<=4000000/\S.length<=5000/\ie (lC s)=⟨⟨a++b⟩⟩/\q_ (ie (lC s))=⟨⟨b⟩⟩/\ie (aI (lC s) ⟨⟨[122,122,122,10,115,101,116,32,120,10]⟩⟩)=⟨⟨a++[119,104,97,116,10,110,111,10]++b⟩⟩/\ie (aI (lC s) ⟨⟨[115,104,111,119,10]⟩⟩)=⟨⟨a++S++b⟩⟩/\ie (aI (lC s) ⟨⟨[115,104,111,119,10,115,104,111,119,10]⟩⟩)=⟨⟨a++S++S++b⟩⟩:=by
 obtain⟨A,e,c,_⟩:=ahw s;rw[e]at h⊢;have d:A.length<=890:=h;have f:=atM ⟨⟨A⟩⟩;rw[Ax (by omega)]at f;have g:=(zc (dq A)).1;have j:=dI g;have k:=C7 (dM ci (dq A)).1.length (by omega) (by omega);have l:=Q' g;have i:((dM ci (dq A)).2++kt (dM ci (dq A)).1.length).length<=4000000:=f;rw[bN]at i;refine⟨(dM ci (dq A)).2,(ef (dM ci (dq A)).1).data.toList++[10],kt (dM ci (dq A)).1.length,?_,by omega,?_,Ax (by omega),amT (by omega),?_,?_,?_⟩
 ·simp only[kt,bN,bZ,eY];omega
 ·rw[bN,kX,J7];omega
 ·rw[nA,ayE c d]
 ·rw[nA,at0 c d]
 ·rw[nA,at1 c d]
def Ns:aK θ (HP r6 ie lC q_):=az (az (az (az (az ba apt) aqU) aqV) apa) apY
variable {S:E AB}
def Jh(a:ρ):aE (.out .ret [.v (.bool (cm a a))] S) vX:=Ay (qO a)
def ayX(m:O)(b:ao)(_:m<=9223372036854775807)(e:okB m (aS b)=ε):∃Γ n Λ,aK θ Γ/\(∀d,(vC).body=γ d->dk θ 1 Λ d)/\aE (ad θ Γ Λ n vC [.sl 0 1 0 0 m ζ] [.row η m 1 (aS b) 5] (ag 1)) vX:=by
 refine⟨_,100,K,Ns,de _,?_⟩;rw[amV];refine aD (λ_=>F rfl) λc=>?_
 have c:=cu c;simp only[bH,iw];have f:=LZ m b;generalize r6 m b=T at f⊢;refine aq (by simp only[Ω,ax,aj,aL,bl,e,bv];omega) (bA (by rw[qO];rfl) (aD (λa=>?_) λa=>?_))
 ·have a:=aV a
  rw[show ie T=O0 from gc];exact Jh O0
 ·have a:=cu a
  refine cv (by rw[atJ];rfl) (cv (by rw[atK,qO]) (aq (by simp only[Ω,ax,aj,bM];omega) ?_));rw[atH (by omega)];exact Jh _
def ayZ(m:O)(b:ao)(_:m<=9223372036854775807)(g:okB m (aS b)=ε):∃Γ n Λ,aK θ Γ/\(∀e,(vE).body=γ e->dk θ 1 Λ e)/\aE (ad θ Γ Λ n vE [.sl 0 1 0 0 m ζ] [.row η m 1 (aS b) 5] (ag 1)) vX:=by
 refine⟨_,100,K,Ns,de _,?_⟩;rw[amX];refine aD (λ_=>F rfl) λc=>?_
 have c:=cu c;simp only[bH,iw];have h:=LZ m b;generalize r6 m b=T at h⊢;refine aq (by simp only[Ω,ax,aj,aL,bl,g,bv];omega) (bA (by rw[qO];rfl) (aq (by simp only[Ω,ax,aj,bM];omega) (aD (λ_=>F rfl) λf=>?_)));have f:=cu f;obtain⟨a,S,d,i,o,p,j,k,l,_,_⟩:=abp (s:=T) (by omega);rw[k,l,j];simp only[Mu a d (by omega) i,cV,Vm,nA];refine aq (by simp only[Ω,ax,aj,aL,bM,bl,Jl,bN,bZ,eY];omega) (Jh _)
def ayY(m:O)(b:ao)(_:m<=9223372036854775807)(h:okB m (aS b)=ε):∃Γ n Λ,aK θ Γ/\(∀e,(vD).body=γ e->dk θ 1 Λ e)/\aE (ad θ Γ Λ n vD [.sl 0 1 0 0 m ζ] [.row η m 1 (aS b) 5] (ag 1)) vX:=by
 refine⟨_,100,K,Ns,de _,?_⟩;rw[amW];refine aD (λ_=>F rfl) λc=>?_
 have c:=cu c;simp only[bH,iw];have i:=LZ m b;generalize r6 m b=T at i⊢;refine aq (by simp only[Ω,ax,aj,aL,bl,h,bv];omega) (bA (by rw[qO];rfl) (aq (by simp only[Ω,ax,aj,bM];omega) (aD (λ_=>F rfl) λf=>?_)));have f:=cu f;obtain⟨a,S,d,g,p,q,j,k,_,l,o⟩:=abp (s:=T) (by omega);rw[k,l,o,j];simp only[Mu a d (by omega) g,Mu (a++S) d (by rw[bN];omega) g,cV,Vm,ahB,nA];refine aq (by simp only[Ω,ax,aj,aL,bM,bl,Jl,bN,bZ,eY];omega) (Jh _)
def N5:laidOutB θ=ε:=by kernel_rfl
def N6:mapsRowed θ=ε:=by kernel_rfl
def N7:(θ.stops==[])=ε:=by kernel_rfl
def N8:(θ.stopKnobs==[])=ε:=by kernel_rfl
def N9:θ.stopsHeard=ε:=by kernel_rfl
def N_:θ.mayEnter=ε:=by kernel_rfl
def N':(jP.lifted==θ.liftsFinal)=ε:=by kernel_rfl
def Oa:(θ.make==γ jP.make)=ε:=by kernel_rfl
def Ob:(jP.plainKeys==θ.plainKeys)=ε:=by kernel_rfl
def amH:l6 Unit->E τ
 | .agg a=>a.flatMap λ
  | .lit (.int k z)=>[jc k z]
  | .agg b=>b.map λ
   | .lit (.int k z)=>jc k z
   |_=>undef
  |_=>[undef]
 |_=>[]
def Eg(g:O)(d:l6 Unit)(a:aX Obj):aX Obj:=a.modify g λ
 | .cells _ t b=>.cells (amH d).toArray t b
 |o=>o
def PX(g:O)(v:τ)(a:aX Obj):aX Obj:=a.modify g λ
 | .cells _ t b=>.cells #[v] t b
 |o=>o
abbrev avp:ρ:={data:= #[105,110,118,97,108,105,100,32,115,121,110,116,97,120]}
abbrev arD:ρ:={data:= #[118,97,108,117,101,32,111,117,116,32,111,102,32,114,97,110,103,101]}
noncomputable def Y0:O:=(World.holding θ default ⟨#[],#[],[]⟩).heap.size
noncomputable def Yx(os:Os):ψ:=
 let a:=World.holding θ os ⟨#[.cells #[.string avp] 340,.cells #[.string arD] 340],#[],[]⟩
 {a with heap:=Eg 6 azw (Eg 7 azx (Eg 2 azv (Eg 4 azA (Eg 3 azB (PX 8 (.iface 338 (.pointer (γ ⟨Y0,0,ζ⟩))) (PX 9 (.iface 338 (.pointer (γ ⟨Y0+1,0,ζ⟩))) a.heap))))))}
def amI:E (BB×l6 Unit):=[("math/bits.deBruijn32tab",azw),("math/bits.deBruijn64tab",azx),("internal/strconv.uint64pow10",azv),("unicode/utf8.acceptRanges",azA),("strconv.ErrRange",azy),("strconv.ErrSyntax",azz),("unicode/utf8.first",azB)]
noncomputable def Ip(os:Os):ψ:={Yx os with heap:=PX 5 eT (Yx os).heap}
def Oe(os:Os)(args:aX τ):laidMetH θ jP.laid ((Ip os).forCall (λ_ _=>0) ⟨#[],args,[]⟩).memory:=
 laidMetH_of_parts (laidMet_of_run' 8 (by kernel_rfl) (by kernel_rfl)) (by kernel_rfl)
def am8:nj:=⟨λ|143=>56|219=>110|217=>185|225=>186|224=>187|267=>188|266=>249|314=>250|n=>n,λ|9=>9|3=>3|4=>4|5=>5|46=>191|146=>247|51=>105|n=>n,λ|1=>0|n=>n⟩
def am7:Go.Proofs.LaysM.n143 θ am8:=by repeat' (first|kernel_rfl|(intros;kernel_rfl)|decide|constructor|exact λw h=>ay8 (zero:= #[.int .i64 0]) (t:=3) h (aV (by kernel_rfl)) (by kernel_rfl) rfl (by kernel_rfl) (by kernel_rfl) underlying3)
def aq1{cs:aX τ}(h:cs.size=1):∃c,cs= #[c]:=by
 obtain⟨l⟩:=cs
 match l,h with
 |[c],_=>exact⟨c,rfl⟩
def XW{W:ψ}(b:BB)(g:O)(tn:BB)(d:l6 Unit)(m:θ.globalNamed b=γ g)(c:(θ.globals[g]?).map (·.type)=γ 41){o:aX (BB×TypeId)}(r:θ.underlying 41=γ (.interface o))(h:laidMet θ [(b,.iface tn d)] W):∃l t e,W.heap[g]?=γ (.cells (List.toArray l) t e)/\BW l:=by
 obtain⟨x,⟨y,z,A,n,p,q,f,i,a,s,_,_⟩,_⟩:=h;obtain rfl:=ov (m.symm.trans f);obtain rfl:=ov (c.symm.trans i);obtain⟨_,u,v,w,_,_⟩:=iface_of_trod r s;unfold TC at a;rw[m,Kf]at a;split at a
 ·rename_i j t e k
  simp only[aC]at a;subst a;exact⟨j.toList,t,e,k,.iface u v,w,.inr ⟨u,v,rfl⟩⟩
 ·cases a
def ax8:θ.globalNamed "errors.errorType" =γ 5:=by kernel_rfl
def ax_:(θ.cutTypes.find? (·.1== "internal/reflectlite.rtype")).map (·.2)=γ 309:=by kernel_rfl
def ax9:((dK θ.types.size).filter λt=>θ.rowNamed t [101,114,114,111,114])=[41]:=by kernel_rfl
def Of{W:ψ}(z:laidMetH θ jP.laid W)(iP:W.ShapedOpen θ):a4 (λk=>W.heap.size<=k) W:=by
 have A:laidMet θ amI W/\handlesMet θ [("errors.errorType",Rows.laid_errors_errorType)] W:=z;obtain⟨h,i⟩:=A;have j:∀{g:O}{o:Obj},W.heap[g]?=γ o->¬W.heap.size<=g:=λh=>by have:=(cC.1 h).1;omega
 intro x w;simp only[vf,dE,iX,oC]at w;rcases w with rfl|rfl|rfl|rfl|rfl
 ·have p:laidMet θ [("internal/strconv.uint64pow10",Lib.tabData .u64 Lib.pow10Tab)] W:=h.filter λx=>x.1== "internal/strconv.uint64pow10"
  have e:θ.globalNamed "internal/strconv.uint64pow10" =γ 2:=by kernel_rfl
  have a:=Lib.tabIs_of_head (t:=227) (e:=109) (n:=20) e (by kernel_rfl) underlying227 underlying109 (by kernel_rfl) (by kernel_rfl) p;unfold Lib.TabIs TC at a;rw[e,Kf]at a;split at a
  ·rename_i y t d b
   simp only[aC]at a;subst a;exact⟨j b,_,t,d,b,rfl⟩
  ·cases a
 ·obtain⟨m,s⟩:=am7.s1_3 W iP
  obtain⟨y,i,B,_⟩:=iP.1 0 #[.int .i64 0] 3 (aV (by kernel_rfl)) (by kernel_rfl);obtain⟨c,rfl⟩:=aq1 B;refine⟨j i,[c],_,_,i,m,?_⟩;have q:W.cell? ⟨0,0,ζ⟩=γ (ι m):=s;simp only[World.cell?,i]at q;simpa using q
 ·have p:laidMet θ [("strconv.ErrSyntax",azz)] W:=h.filter λx=>x.1== "strconv.ErrSyntax"
  obtain⟨l,t,d,a,v⟩:=XW "strconv.ErrSyntax" 8 _ _ (by kernel_rfl) (by kernel_rfl) tH p;exact⟨j a,l,t,d,a,v⟩
 ·have p:laidMet θ [("strconv.ErrRange",azy)] W:=h.filter λx=>x.1== "strconv.ErrRange"
  obtain⟨l,t,d,a,v⟩:=XW "strconv.ErrRange" 9 _ _ (by kernel_rfl) (by kernel_rfl) tH p;exact⟨j a,l,t,d,a,v⟩
 ·obtain⟨r,u,C,D,G,H,I,f⟩:=i _ (nq.2 rfl)
  have L:r=[101,114,114,111,114]:=(ov D).symm;subst L;obtain rfl:=ov (ax_.symm.trans G);have s:C∈ (dK θ.types.size).filter λt=>θ.rowNamed t [101,114,114,111,114]:=adX.2 ⟨np.2 H,I⟩
  rw[ax9]at s;obtain rfl:=nq.1 s;have M:typeHandle θ 41=.pointer (γ ⟨10,41,ζ⟩):=by kernel_rfl
  rw[M]at f;unfold TC at f;rw[ax8,Kf]at f;split at f
  ·rename_i y t d b
   simp only[aC]at f;subst f;exact⟨j b,_,t,d,b,rfl⟩
  ·cases f
def RC{H:Type}{enc:TypeId×τ->H}{a:Assume}{C:Checked}{os:Os}{fn:Func}{s:ChangeSpec}{k:E PathCond}{b l g m:ξ}{X:ψ->aX τ->Prop}(M:∀(w w':ψ)(args:aX τ),w.heap=w'.heap->X w args->X w' args)(own:ownKnob C.prog.godebug=ζ)(n:os.Started)(p:C.prog.inits.idxOf? I=ζ)(y:C.prog.funcs[I]?=γ fn)(o:∃(w:ψ)(c:Tape)(i:Input),w.os=os/\(w.forCall c i).Shaped C.prog/\i.vars=[]/\Input.okWide C.prog (w.forCall c i) .any w.heap.size I i/\((s.pre enc C.prog fn k b (w.forCall c i).memory i.args/\X (w.forCall c i).memory i.args)/\sizedMet enc C.prog fn (rU s) b (w.forCall c i).memory i.args)/\a.holds C.prog (lone (Frame.enter C.prog I i.args .normal) [] (w.forCall c i)))(h:∀(W:ψ)(base:O)(args:aX τ)(z A:E (l6 H))(d:E MemPlace),(∀(j:O) t v,fn.params[j]?=γ t->args[j]?=γ v->Value.okWide C.prog W .any base t v)->DataW.Whole enc C.prog fn.params.toList s.vars b W args.toList z A d->X W args->W.ShapedOpen C.prog->aM C.prog I args W λe L=>∃v,e=.returned v/\s.post enc C.prog fn b l g m W args v L):ReturnsInHanded a C os I .any (λw args=>(s.pre enc C.prog fn k b w args/\X w args)/\sizedMet enc C.prog fn (rU s) b w args) (s.post enc C.prog fn b l g m):=by
 refine returnsInHanded_of_calls own n p o ?_;intro w c i _ iP _ B q x;obtain⟨_,_,_,D,r,_,_,_,_,u⟩:=B;have e:D=fn:=ov (r.symm.trans y);subst e;obtain⟨⟨⟨z,A,d,N,S⟩,P⟩,T⟩:=q;have G:=DataW.Whole.of_heap (w':=w.forCall c i) (by rfl) N;refine(h (w.forCall c i) w.heap.size i.args z A d u G (M _ _ _ (by rfl) P) iP).mono λe L ⟨v,Q,R⟩=>?_
 subst Q;exact ChangeSpec.post_blind R
end
end Go.Proofs.YtdadmpgfcfkidaaGreatDoor
