/- Part 0 of the proof of FnExactExecuteCard. -/
import Derived.Orders
import Derived.Tactics
import Derived.Below
import Derived.ProofKit
import Derived.WalkKit
import Derived.Laws.AppendOwn
import Derived.Laws.Rows
import Derived.Laws.Tables
import Derived.KernelRfl
import Derived.Scope
import Derived.Lib.ItoaMem
import Derived.Lib.LaidTab
import Derived.Laws.MakeOwn
import Derived.Laws.OwnMore
import Derived.Great.BuildSlice
import Derived.ChangeKeysEq
import Derived.Laws.StructEq
import Derived.Laws.IdiomStrings
import Derived.Laws.Concat
import Derived.LoopN
import Derived.RowKit
import Derived.Laws.BitsLemmas
import Derived.Test.YtlmbkhplhkdhlaaGreatDoorProg
import Derived.Test.YtlmbkhplhkdhlaaGreatDoorRows
import Derived.OpenShut
import Derived.Carry
import Derived.Deep.Slices
import Derived.ChangeMaps5
import Derived.RangeFuncNested
import Derived.RangeFuncBound
import Derived.RangeFuncCalls
import Derived.RangeFuncLeaves
import Derived.LoopNIn
import Derived.OrdersIn
import Derived.TacticsIn
set_option maxRecDepth 100000
set_option maxHeartbeats 8000000
set_option linter.defProp false
set_option linter.unusedVariables false
set_option linter.unusedSimpArgs false
open Go renaming Act→aV,Addr→c9,BinOp→mH,Calls→aH,Code→a9,Deferred→zq,Exit→dj,FloatKind→OQ,Func→cA,FuncId→bq,Oper→a6,Operand→cS,Program→aF,ResultVar→Pq,SeqStopsK→wu,TypeId→ae,Value→τ,World→υ,asIntOf→sc,callFunc→g_,callsIn_wide→Qk,calls_of_wp→D0,eqGuard→fB,execOp→dl,getD_set_ne→wA,grownBy_keeps→Ql,grownBy_putObj'→sf,grownCap→lC,grownCap_ge→Qm,grownCap_le_maxLen→aaS,loadVar→uc,madeCells→Qn,maxLen→jv,mem_ready→ud,resolve→kt,rounds_succ→oL,run_endLoop→Qo,run_underlying→fC,setRow_heap→D1,setRow_other→Qq,sizeOf→si,size_zeroCells→aaU,step→jU,storeCells→Qr,typeInfo→wE,undef→aX,wpIn_mono→ku,wpOp→lD,wpOps→sj,wp_loop_rounds→oM,wp_mono→oN,wp_region_any→Qt,zeroValue→D2
open Go.Act renaming eval→OE,put→jb
open Go.Addr renaming add→zm
open _root_ renaming Array→aU,Bool→κ,ByteArray→ρ,False→jc,Int→Z,List→E,Nat→O,Option→χ,UInt8→ψ,absurd→aO,and_true→aa,beq_iff_eq→ks,cond_false→a_,cond_true→aZ,decide_eq_false→eJ,decide_eq_true→bA,decide_eq_true_eq→aB,getElem!_pos→wB,guard→pJ,if_neg→bi,if_pos→aP,if_true→qN,not_or→ue,of_decide_eq_true→aL,true_and→bo
open Array renaming ext'→fV,getD→qD,getD_eq_getD_getElem?→qE,getElem?_append_left→Zl,getElem?_eq_some_iff→cm,getElem?_push→Zm,getElem?_replicate→OG,getElem?_setIfInBounds→OH,getElem?_setIfInBounds_ne→atp,getElem?_toList→Zn,length_toList→lx,range→OI,replicate→r4,size_setIfInBounds→Zo,toList_map→Ho,toList_setIfInBounds→Hp
open Bool renaming and_eq_true→aM,and_true→iM,false_eq_true→r6,not_eq_true→Dl,not_eq_true'→it,or_eq_false_iff→ats,or_eq_true→oA,or_false→Zp,false→η,true→ε
open Go.Builtin renaming append_→qF,clear_→Zq,firstCells→Zr,lenOf→Zs,len_→ON,zeroCells→py
open Go.Call renaming operands→Zu
open Go.Code renaming region→Ht,rounds→Zw
open Go.DataW renaming TrodAll→Zx,Whole→Zy
open Go.Deferred renaming ofValue→Dn
open Go.Exit renaming inBlock→oB,noGoto→Zz
open Go.Instr renaming box→ZE,build→lz,buildSlice→ZF,extract→OT,fill→kO,index→v6,indexAt→OU,loadAt→Dq,makeFunc→OV,slice→ZH,sliceAt→Dr,sliceBound→Hz,sliceBounds→v7,storeAt→ZI,sureAddr→zr
open Int renaming le_total→ZJ,mul_comm→ZK,tmod_eq_emod_of_nonneg→v_
open Go.KeepsWalks renaming putObj→atH
open List renaming all_append→gC,all_cons→gl,all_eq_true→bX,all_nil→jR,append_assoc→lZ,append_nil→Dy,cons_append→oD,count_eq_zero→Dz,count_set→ZY,drop_drop→zx,drop_succ_cons→ZZ,drop_zero→Z0,ext_getElem?→O5,filterMap_cons→Z1,foldl_cons→zA,getD→HG,getD_cons_succ→DB,getD_cons_zero→zB,getD_eq_getElem?_getD→cq,getElem?_append_left→km,getElem?_append_right→pz,getElem?_cons_succ→tU,getElem?_cons_zero→kn,getElem?_drop→pA,getElem?_eq_getElem→cV,getElem?_eq_none→l0,getElem?_eq_some_iff→eV,getElem?_replicate→atN,getElem?_set→O_,getElem?_take→mL,getElem?_toArray→tV,getElem?_zipWith→DC,getElem_map→HI,length_append→cv,length_cons→cn,length_drop→oF,length_nil→gm,length_take→oG,map_congr_left→wk,map_cons→eD,map_nil→kp,mem_append→nD,mem_append_left→atP,mem_append_right→Z7,mem_cons→dw,mem_cons_of_mem→lB,mem_cons_self→je,mem_iff_getElem?→HJ,mem_map→fX,mem_of_getElem?→g8,mem_of_mem_drop→Z_,mem_of_mem_take→Pf,mem_range→mM,mem_toArray→zD,range→dH,range'→tW,range_eq_range'→aaa,replicate→ez,size_toArray→DD,take_of_length_le→oH,toArray→qI,zipWith→aac
open List.cons renaming injEq→lA
open Nat renaming add_mul→fN,add_right_comm→Pj,add_sub_cancel_left→DH,add_zero→iu,beq→ai,beq_refl→l5,ble→Θ,ble_eq→aT,blt→Δ,blt_eq→bS,div_eq_of_lt→tX,eq_of_beq_eq_true→ci,eq_zero_or_pos→pB,le_of_ble_eq_true→pC,le_refl→aR,le_trans→cD,lt_irrefl→nF,lt_of_lt_of_le→eE,lt_or_ge→nG,lt_succ_self→ft,lt_trichotomy→tY,min→wn,min_eq_left→DI,mod_eq_of_lt→zF,mod_lt→r7,mul_add_div→aal,mul_comm→r8,mul_le_mul→pD,mul_le_mul_right→iO,mul_one→qJ,not_lt_zero→cN,one_mul→jS,strongRecOn→DL,sub_self→HP,sub_zero→zI,zero_add→bF,zero_le→eF
open Go.Op renaming eqFields→aap,equal→Pm,equalIn→oJ,maxDepth→Pn,operands→eI,stringOp→DN
open Go.Oper renaming upon→wq,wp→nJ
open Option renaming getD_some→g9,isSome_iff_exists→r9,map_eq_some_iff→dt,map_some→zJ,none→ζ,some→γ
open Option.some renaming injEq→ar
open Prod.mk renaming injEq→cG
open Go.Region renaming binds→l6,ready→l7,wanted→nK
open Go.Result renaming andThen_ok→gQ
open Go.Result.ok renaming injEq→DT
open Go.Sem renaming run→zL,run_bind→fO,run_pure→Ps
open Go.Proofs.Tryz renaming prog→θ
open Go.Value.agg renaming injEq→aud
open Go.Value renaming bool→aaO,cells→qL,int→jf,okWide→aaP,oneCell'→Qh,slice→dk
open Go.World renaming alloc_heap_new→l8,grownBy_alloc→fk,putObj_heap_other→qM,putObj_heap_same→Qi
open Decidable renaming decide→ο
open Go.Proofs.Tryz
namespace Go.Proofs.YtlmbkhplhkdhlaaGreatDoor
noncomputable section
open Go.RowKit Go.ChangeShapes Go.WideShapes Go.ChangeAt Go.Deep
abbrev ω:=O->O->Z
abbrev aQ:=O->Z
structure Bk where
 n:O
 o:O
 c:O
abbrev Nu:=O->χ Bk
inductive AV where
 |v (x:τ)
 |ptr (i w j k:O)
 |sl (i w j k len:O) (cap:χ O)
 |own (i len:O)
 |agg (cs:E AV)
 |Ψ (cs:E AV)
 |fn (f:bq) (cs:E AV)
 |err (q:κ)
 |dead
 deriving Inhabited
mutual
def VR(ν:Nu):AV->τ->Prop
 | .v x,y=>y=x
 | .ptr i w j k,y=>∃b,ν i=γ b/\y=.pointer (γ ⟨b.n,b.o+(j*w+k),ζ⟩)
 | .sl i w j k d g,y=>∃p c,y=.slice p d c/\(∀h,g=γ h->c=h)/\d<=c/\(0<c->∃b,ν i=γ b/\p=γ ⟨b.n,b.o+(j*w+k),ζ⟩)
 | .own i d,y=>∃b,ν i=γ b/\y=.slice (γ ⟨b.n,b.o,ζ⟩) d b.c
 | .agg e,y=>∃l,y=.agg (qI l)/\ax ν e l
 | .Ψ e,y=>∃l,y=.tuple (qI l)/\ax ν e l
 | .fn f e,y=>∃l,y=.func (.func f) #[] (qI l)/\ax ν e l
 | .err q,y=>cond q (∃t x,y=.iface t x) (y=.nilIface)
 | .dead,_=>True
def ax(ν:Nu):E AV->E τ->Prop
 |[],[]=>True
 |a::m,y::n=>VR ν a y/\ax ν m n
 |_,_=>jc
end
inductive AB where
 |cells (cs:E AV) (t:ae)
 |row (rw:κ) (n w:O) (g:O->E τ) (t:ae)
 |gone
 deriving Inhabited
def AB.wr:AB->κ
 | .cells _ _=>ε
 | .row rw _ _ _ _=>rw
 | .gone=>η
def AB.live:AB->κ
 | .gone=>η
 |_=>ε
def BR(ν:Nu)(i:O):AB->υ->Prop
 | .cells e t,w=>∃b l,ν i=γ b/\b.o=0/\w.heap[b.n]?=γ (.cells (qI l) t (0,0))/\ax ν e l
 | .row rw n a g t,w=>(rw=η/\n=0/\ν i=ζ)\/∃b l c d,ν i=γ b/\w.heap[b.n]?=γ (.cells (qI l) c d)/\(rw=ε->d=(0,0)/\b.o=0/\c=t/\l.length=b.c*a/\b.c<=jv)/\n<=b.c/\
  ∀j,j<n->((g j).length=a/\∀x∈g j,x.oneCell'=ε)/\∀k,k<a->l[b.o+(j*a+k)]?=(g j)[k]?
 | .gone,_=>True
def Le(ν a:Nu):Prop:=∀i b,ν i=γ b->a i=γ b
def Le.refl(ν:Nu):Le ν ν:=λ_ _ h=>h
def Le.trans{a b c:Nu}(h:Le a b)(k:Le b c):Le a c:=λi x d=>k i x (h i x d)
mutual
theorem VR.le{ν e:Nu}(h:Le ν e):∀{a:AV}{y:τ},VR ν a y->VR e a y
 | .v _,_,d=>by simpa only[VR]using d
 | .ptr ..,_,d=>by simp only[VR]at d⊢;obtain⟨b,f,g⟩:=d;exact⟨b,h _ _ f,g⟩
 | .sl ..,_,d=>by simp only[VR]at d⊢;obtain⟨p,c,f,g,m,n⟩:=d;exact⟨p,c,f,g,m,λo=>let⟨b,q,r⟩:=n o;⟨b,h _ _ q,r⟩⟩
 | .own ..,_,d=>by simp only[VR]at d⊢;obtain⟨b,f,g⟩:=d;exact⟨b,h _ _ f,g⟩
 | .agg i,_,d=>by simp only[VR]at d⊢;obtain⟨l,f,g⟩:=d;exact⟨l,f,ax.le h g⟩
 | .Ψ i,_,d=>by simp only[VR]at d⊢;obtain⟨l,f,g⟩:=d;exact⟨l,f,ax.le h g⟩
 | .fn _ i,_,d=>by simp only[VR]at d⊢;obtain⟨l,f,g⟩:=d;exact⟨l,f,ax.le h g⟩
 | .err _,_,d=>by simpa only[VR]using d
 | .dead,_,_=>by simp only[VR]
theorem ax.le{ν e:Nu}(h:Le ν e):∀{j:E AV}{k:E τ},ax ν j k->ax e j k
 |[],[],_=>by simp only[ax]
 |_::_,_::_,d=>by simp only[ax]at d⊢;exact⟨VR.le h d.1,ax.le h d.2⟩
 |[],_::_,d=>by simp only[ax]at d
 |_::_,[],d=>by simp only[ax]at d
end
def ax.length{ν:Nu}:∀{b:E AV}{c:E τ},ax ν b c->b.length=c.length
 |[],[],_=>rfl
 |_::_,_::_,a=>by simp only[ax]at a;simp[ax.length a.2]
 |[],_::_,a=>by simp only[ax]at a
 |_::_,[],a=>by simp only[ax]at a
def ax.get{ν:Nu}:∀{c:E AV}{d:E τ}(_:ax ν c d){i:O}{a:AV},c[i]?=γ a->∃y,d[i]?=γ y/\VR ν a y
 |[],[],_,i,a,h=>by simp at h
 |f::c,e::d,b,i,a,h=>by
  simp only[ax]at b;cases i with
  |zero=>simp at h;subst h;exact⟨e,rfl,b.1⟩
  |succ i=>simpa using ax.get b.2 (i:=i) (by simpa using h)
 |[],_::_,b,_,_,_=>by simp only[ax]at b
 |_::_,[],b,_,_,_=>by simp only[ax]at b
def ax.of{ν:Nu}:∀{c:E AV}{d:E τ},c.length=d.length->(∀(i:O) a y,c[i]?=γ a->d[i]?=γ y->VR ν a y)->ax ν c d
 |[],[],_,_=>by simp only[ax]
 |a::c,y::d,b,h=>by simp only[ax];exact⟨h 0 a y rfl rfl,ax.of (by simpa using b) λi e f g j=>h (i+1) e f (by simpa using g) (by simpa using j)⟩
 |[],_::_,b,_=>by simp at b
 |_::_,[],b,_=>by simp at b
def ax.take{ν:Nu}{e:E AV}{f:E τ}(h:ax ν e f)(n:O):ax ν (e.take n) (f.take n):=
 ax.of (by simp[h.length]) λi a y b c=>by
  rw[mL]at b c;split at b
  ·rename_i d
   rw[aP d]at c;obtain⟨k,g,j⟩:=h.get b;rw[g]at c;cases c;exact j
  ·cases b
def ax.drop{ν:Nu}{c:E AV}{d:E τ}(h:ax ν c d)(n:O):ax ν (c.drop n) (d.drop n):=
 ax.of (by simp[h.length]) λi a y e b=>by rw[pA]at e b;obtain⟨j,f,g⟩:=h.get e;rw[f]at b;cases b;exact g
def ax.append{ν:Nu}:∀{c bs:E AV}{d zs:E τ},ax ν c d->ax ν bs zs->ax ν (c++bs) (d++zs)
 |[],_,[],_,_,b=>b
 |_::_,_,_::_,_,a,b=>by simp only[ax,oD]at a⊢;exact⟨a.1,a.2.append b⟩
 |[],_,_::_,_,a,_=>by simp only[ax]at a
 |_::_,_,[],_,a,_=>by simp only[ax]at a
def ax.vb{ν:Nu}:∀(l:E τ),ax ν (l.map .v) l
 |[]=>by simp only[ax,kp]
 |x::l=>by simp only[eD,ax,VR];exact⟨trivial,ax.vb l⟩
mutual
def AV.ip:AV->χ τ
 | .v x=>γ x
 | .agg b=>(AV.mD b).map λl=>.agg l.toArray
 | .Ψ b=>(AV.mD b).map λl=>.tuple l.toArray
 | .fn f []=>γ (.func (.func f) #[] #[])
 |_=>ζ
def AV.mD:E AV->χ (E τ)
 |[]=>γ []
 |a::c=>match AV.ip a,AV.mD c with
  |some x,γ d=>γ (x::d)
  |_,_=>ζ
end
mutual
theorem iP{ν:Nu}:∀{a:AV}{x y:τ},a.ip=γ x->VR ν a y->y=x
 | .v _,_,_,h,b=>by simp only[AV.ip,ar]at h;simp only[VR]at b;rw[b,h]
 | .agg j,_,_,h,b=>by simp only[AV.ip,dt]at h;simp only[VR]at b;obtain⟨l,e,rfl⟩:=h;obtain⟨k,rfl,c⟩:=b;rw[oR e c]
 | .Ψ j,_,_,h,b=>by simp only[AV.ip,dt]at h;simp only[VR]at b;obtain⟨l,e,rfl⟩:=h;obtain⟨k,rfl,c⟩:=b;rw[oR e c]
 | .ptr ..,_,_,h,_=>by simp[AV.ip]at h
 | .sl ..,_,_,h,_=>by simp[AV.ip]at h
 | .own ..,_,_,h,_=>by simp[AV.ip]at h
 | .fn f [],_,_,h,b=>by
  simp only[AV.ip,ar]at h;simp only[VR]at b;obtain⟨l,rfl,c⟩:=b;cases l with
  |nil=>exact h
  |cons=>simp only[ax]at c
 | .fn _ (_::_),_,_,h,_=>by simp[AV.ip]at h
 | .err _,_,_,h,_=>by simp[AV.ip]at h
 | .dead,_,_,h,_=>by simp[AV.ip]at h
theorem oR{ν:Nu}:∀{i:E AV}{g d:E τ},AV.mD i=γ g->ax ν i d->d=g
 |[],g,d,h,b=>by
  simp only[AV.mD,ar]at h;subst h;cases d with
  |nil=>rfl
  |cons _ _=>simp only[ax]at b
 |a::i,g,d,h,b=>by
  cases d with
  |nil=>simp only[ax]at b
  |cons y d=>
   simp only[ax]at b;simp only[AV.mD]at h;split at h
   ·rename_i x m e c
    simp only[ar]at h;subst h;rw[iP e b.1,oR c b.2]
   ·cases h
end
def AV.cells:AV->χ (E AV)
 | .v (.agg b)=>γ (b.toList.map .v)
 | .v (.tuple _)=>ζ
 | .v x=>γ [.v x]
 | .agg c=>γ c
 | .Ψ _=>ζ
 | .dead=>ζ
 |a=>γ [a]
def QR{ν:Nu}{a:AV}{cs:E AV}{y:τ}(h:a.cells=γ cs)(e:VR ν a y):ax ν cs y.cells.toList:=by
 cases a with
 |v x=>
  simp only[VR]at e;subst e;cases y<;>simp only[AV.cells,ar,reduceCtorEq]at h<;>subst h<;>simp only[qL]
  case agg n=>exact ax.vb _
  all_goals simp[ax,VR]
 |agg g=>simp only[AV.cells,ar]at h;subst h;simp only[VR]at e;obtain⟨l,rfl,o⟩:=e;simpa[qL]using o
 |Ψ=>simp[AV.cells]at h
 |dead=>simp[AV.cells]at h
 |ptr i w j k=>simp only[AV.cells,ar]at h;subst h;have d:=e;simp only[VR]at e;obtain⟨b,_,rfl⟩:=e;simp only[qL,ax];exact⟨d,trivial⟩
 |sl i w j k m r=>simp only[AV.cells,ar]at h;subst h;have d:=e;simp only[VR]at e;obtain⟨p,c,rfl,_⟩:=e;simp only[qL,ax];exact⟨d,trivial⟩
 |own i m=>simp only[AV.cells,ar]at h;subst h;have d:=e;simp only[VR]at e;obtain⟨b,_,rfl⟩:=e;simp only[qL,ax];exact⟨d,trivial⟩
 |fn f g=>simp only[AV.cells,ar]at h;subst h;have d:=e;simp only[VR]at e;obtain⟨l,rfl,_⟩:=e;simp only[qL,ax];exact⟨d,trivial⟩
 |err q=>
  simp only[AV.cells,ar]at h;subst h;have d:=e;simp only[VR]at e;cases q
  ·obtain rfl:y=.nilIface:=e
   simp only[qL,ax];exact⟨d,trivial⟩
  ·obtain⟨t,x,rfl⟩:=e
   simp only[qL,ax];exact⟨d,trivial⟩
def AV.flat:AV->κ
 | .v (.agg _)=>η
 | .v (.tuple _)=>η
 | .v (.bool _)| .v (.int _ _)| .v (.float _ _)| .v (.complex _ _ _)| .v (.string _)| .v (.pointer _)| .v (.slice _ _ _)| .v .nilFunc| .v .nilIface| .v (.func _ _ _)| .v (.iface _ _)| .v (.map _)=>ε
 | .ptr .. | .sl .. | .own .. | .fn .. | .err _=>ε
 |_=>η
def aa'{ν:Nu}{a:AV}{y:τ}(h:a.flat=ε)(d:VR ν a y):y.oneCell'=ε:=by
 cases a with
 |v x=>simp only[VR]at d;subst d;cases y<;>simp_all [AV.flat,Qh]
 |ptr=>simp only[VR]at d;obtain⟨b,_,rfl⟩:=d;rfl
 |sl=>simp only[VR]at d;obtain⟨p,c,rfl,_⟩:=d;rfl
 |own=>simp only[VR]at d;obtain⟨b,_,rfl⟩:=d;rfl
 |fn=>simp only[VR]at d;obtain⟨l,rfl,_⟩:=d;rfl
 |agg=>simp[AV.flat]at h
 |Ψ=>simp[AV.flat]at h
 |err q=>
  simp only[VR]at d;cases q
  ·obtain rfl:y=.nilIface:=d
   rfl
  ·obtain⟨t,x,rfl⟩:=d
   rfl
 |dead=>simp[AV.flat]at h
def my(P:aF){α:Type}:Sem α->χ α
 | .pure a=>γ a
 | .program k=>my P (k P)
 | .mark _ k=>my P k
 |_=>ζ
def nj{P:aF}{α:Type}{s:Sem α}{a:α}(h:my P s=γ a)(w:υ):s.run P w=.ok a w:=by
 induction s with
 |pure x=>simp only[my,ar]at h;subst h;rfl
 |program k b=>simp only[my]at h;simpa[zL]using b _ h
 |mark m k b=>simp only[my]at h;simpa[zL]using b h
 |_=>simp[my]at h
def QV(l:E τ):Prop:=∃m,l=[.int .i64 m]
def z9(l:E τ):Prop:=∃v,l=[v]/\(v=.nilIface\/∃t x,v=.iface t x)
def QW(l:E τ):Prop:=l=[.iface 298 (.agg #[.pointer (γ ⟨10,38,ζ⟩)])]
def zd:E (O× (E τ->Prop)):=[(2,λl=>l=Lib.pow10Tab.map λz=>jf .u64 z),(1,QV),(8,z9),(9,z9),(5,QW)]
def aY(M:O->Prop)(w:υ):Prop:=∀x∈zd,¬M x.1/\∃l t a,w.heap[x.1]?=γ (.cells (qI l) t a)/\x.2 l
def aY.mono{M a:O->Prop}{w:υ}(h:aY M w)(hM:∀k,k<w.heap.size->a k->M k):aY a w:=λx c=>by obtain⟨d,l,t,e,b,f⟩:=h x c;refine⟨λg=>d (hM _ ?_ g),l,t,e,b,f⟩;exact(cm.1 b).1
def aY.block{M:O->Prop}{w w':υ}(h:aY M w)(c:∀k,k<w.heap.size->¬M k->w'.heap[k]?=w.heap[k]?):aY M w':=λx d=>by obtain⟨a,l,t,e,b,f⟩:=h x d;exact⟨a,l,t,e,(c _ (cm.1 b).1 a).trans b,f⟩
structure RH (M:O->Prop) (ν:Nu) (H:O->AB) (w:υ):Prop where
 br:∀i,BR ν i (H i) w
 sep:∀i j b b',i≠j->(H i).wr=ε->(H j).live=ε->ν i=γ b->ν j=γ b'->b.n≠b'.n
 own:∀i b,(H i).wr=ε->ν i=γ b->M b.n
 lt:∀i b,ν i=γ b->b.n<w.heap.size
 eC:aY M w
structure Fr (M:O->Prop) (w0 w:υ):Prop where
 os:w.os=w0.os
 tape:w.tape=w0.tape
 output:w.output=w0.output
 size:w0.heap.size<=w.heap.size
 block:∀k,k<w0.heap.size->¬M k->w.heap[k]?=w0.heap[k]?
def Fr.refl(M:O->Prop)(w:υ):Fr M w w:=⟨rfl,rfl,rfl,aR _,λ_ _ _=>rfl⟩
def Fr.trans{M:O->Prop}{a b c:υ}(h:Fr M a b)(k:Fr M b c):Fr M a c:=
 ⟨k.os.trans h.os,k.tape.trans h.tape,k.output.trans h.output,cD h.size k.size,λi d e=>(k.block i (eE d h.size) e).trans (h.block i d e)⟩
def Fr.mono{M c:O->Prop}{a b:υ}(h:Fr M a b)(e:∀k,k<a.heap.size->M k->c k):Fr c a b:=
 ⟨h.os,h.tape,h.output,h.size,λk d f=>h.block k d λhM=>f (e k d hM)⟩
def Fr.drew{M:O->Prop}{a w:υ}(h:Fr M a w):Fr M a {w with drawn:=w.drawn+1}:=⟨h.os,h.tape,h.output,h.size,h.block⟩
def aY.fr{M:O->Prop}{w w':υ}(h:aY M w)(f:Fr M w w'):aY M w':=h.block f.block
def Fr.below{w w':υ}(h:Fr (λ_=>jc) w w'):Below w.heap.size w w':=⟨h.os,h.tape,h.output,h.size,λk a=>h.block k a λf=>f⟩
def Below.fr{w w':υ}(h:Below w.heap.size w w'):Fr (λ_=>jc) w w':=⟨h.os,h.tape,h.output,h.size,λk a _=>h.block k a⟩
def BR.of_block{ν:Nu}{i:O}{b:AB}{w w':υ}(h:BR ν i b w)(e:∀k,ν i=γ k->b.live=ε->w'.heap[k.n]?=w.heap[k.n]?):BR ν i b w':=by
 cases b with
 |cells o t=>obtain⟨b,l,a,c,d,f⟩:=h;exact⟨b,l,a,c,(e b a rfl).trans d,f⟩
 |row rw n p g t=>
  rcases h with h|⟨b,l,j,m,a,c,d⟩
  ·exact .inl h
  ·exact .inr ⟨b,l,j,m,a,(e b a rfl).trans c,d⟩
 |gone=>trivial
def BR.le{ν a:Nu}{i:O}{b:AB}{w:υ}(f:Le ν a)(j:ν i=ζ->a i=ζ)(h:BR ν i b w):BR a i b w:=by
 cases b with
 |cells p t=>obtain⟨b,l,c,d,e,k⟩:=h;exact⟨b,l,f _ _ c,d,e,k.le f⟩
 |row rw n q g t=>
  rcases h with⟨c,d,e⟩|⟨b,l,m,o,c,d,e⟩
  ·exact .inl ⟨c,d,j e⟩
  ·exact .inr ⟨b,l,m,o,f _ _ c,d,e⟩
 |gone=>trivial
structure Delta where
 val:AV
 rd:E O:=[]
 put:E (O×AB):=[]
 new:E AB:=[]
 ap:E κ:=[]
def eO(i:O):E (O×AB)->χ AB
 |[]=>ζ
 |p::l=>if p.1=i then γ p.2 else eO i l
def od{i:O}{b:AB}:∀{l:E (O×AB)},eO i l=γ b->(i,b)∈l
 |[],h=>by simp[eO]at h
 |p::l,h=>by
  simp only[eO]at h;split at h
  ·rename_i e;cases h;subst e;exact je
  ·exact lB _ (od h)
def U9{i:O}:∀{l:E (O×AB)},eO i l=ζ->∀p∈l,p.1≠i
 |[],_=>by simp
 |p::l,h=>by
  simp only[eO]at h;split at h
  ·cases h
  ·rename_i e
   intro q a;rcases dw.1 a with rfl|a
   ·exact e
   ·exact U9 h q a
structure ef (ν ν':Nu) (base:O) (δ:Delta) (w w':υ) (v:τ):Prop where
 le:Le ν ν'
 b6:∀i,ν i=ζ->ν' i≠ζ->base<=i/\i<base+δ.new.length
 val:VR ν' δ.val v
 put:∀i b,eO i δ.put=γ b->BR ν' i b w'
 new:∀j b,δ.new[j]?=γ b->BR ν' (base+j) b w'
 os:w'.os=w.os
 tape:w'.tape=w.tape
 output:w'.output=w.output
 size:w.heap.size<=w'.heap.size
 block:∀k,k<w.heap.size->(∀p b,p∈δ.put->ν p.1=γ b->b.n≠k)->w'.heap[k]?=w.heap[k]?
 fresh:∀j b,j<δ.new.length->ν' (base+j)=γ b->b.n<w'.heap.size/\(w.heap.size<=b.n\/∃i b0,eO i δ.put=γ AB.gone/\ν i=γ b0/\b0.n=b.n)
 apart:∀j j' b b',j≠j'->j<δ.new.length->j'<δ.new.length->ν' (base+j)=γ b->ν' (base+j')=γ b'->b.n≠b'.n
def jW(base:O)(δ:Delta)(H:O->AB):O->AB:=λi=>if base<=i/\i<base+δ.new.length then δ.new.getD (i-base) .gone else(eO i δ.put).getD (H i)
def RH.step{M:O->Prop}{ν u:Nu}{H:O->AB}{base:O}{δ:Delta}{w w':υ}{v:τ}(h:RH M ν H w)(hM:∀k,w.heap.size<=k->M k)(d:ef ν u base δ w w' v)(f:∀p∈δ.put,(H p.1).wr=ε)(_:∀j,j<δ.new.length->ν (base+j)=ζ):RH M u (jW base δ H) w':=by
 have o:∀i,¬(base<=i/\i<base+δ.new.length)->∀b,u i=γ b->ν i=γ b:=by
  intro i a b m;cases X:ν i with
  |none=>exact aO (d.b6 i X (by rw[m];simp)) a
  |some q=>rw[d.le _ _ X]at m;exact m
 have c:∀i,base<=i/\i<base+δ.new.length->∃j,j<δ.new.length/\i=base+j:=λi a=>⟨i-base,by omega,by omega⟩
 have n:∀b:AB,b.wr=ε->b.live=ε:=λb m=>by cases b<;>simp_all [AB.wr,AB.live]
 have r:∀i,¬(base<=i/\i<base+δ.new.length)->((jW base δ H) i).wr=ε->(H i).wr=ε:=by
  intro i a s;simp only[jW,bi a]at s;cases D:eO i δ.put with
  |none=>simpa[D]using s
  |some b=>exact f _ (od D)
 have g:∀i,¬(base<=i/\i<base+δ.new.length)->((jW base δ H) i).live=ε->(H i).live=ε:=by
  intro i a s;simp only[jW,bi a]at s;cases D:eO i δ.put with
  |none=>simpa[D]using s
  |some b=>exact n _ (f _ (od D))
 have l:∀i,¬(base<=i/\i<base+δ.new.length)->((jW base δ H) i).live=ε->∀t q b,ν i=γ b->eO t δ.put=γ .gone->ν t=γ q->q.n≠b.n:=by
  intro i a s t q b m G N;have P:t≠i:=by rintro rfl;simp only[jW,bi a,G,g9,AB.live]at s;cases s
  exact h.sep t i q b P (f _ (od G)) (g i a s) N m
 refine⟨λi=>?_,?_,?_,?_,h.eC.block λk hk hm=>d.block k hk λp b hp m e=>hm (e▸h.own p.1 b (f p hp) m)⟩
 ·by_cases a:base<=i/\i<base+δ.new.length
  ·obtain⟨j,A,rfl⟩:=c i a
   simp only[jW,aP a,DH];have:δ.new[j]?=γ δ.new[j]:=by simp[A]
   rw[cq,this];exact d.new j _ this
  ·simp only[jW,bi a]
   cases D:eO i δ.put with
   |some b=>exact d.put _ _ D
   |none=>
    refine((h.br i).of_block λk hk Q=>d.block k.n (h.lt i k hk) ?_).le d.le ?_
    ·intro p b hp m
     exact h.sep p.1 i b k (U9 D p hp) (f p hp) Q m hk
    ·intro X
     cases hn':u i with
     |none=>rfl
     |some z=>exact aO (d.b6 i X (by rw[hn'];simp)) a
 ·intro i j b R P T U B C
  by_cases a:base<=i/\i<base+δ.new.length
  ·obtain⟨x,S,rfl⟩:=c i a
   by_cases A:base<=j/\j<base+δ.new.length
   ·obtain⟨y,hy,rfl⟩:=c j A
    exact d.apart x y b R (by omega) S hy B C
   ·have I:=o j A R C
    rcases(d.fresh x b S B).2 with hf|⟨t,q,G,N,W⟩
    ·have:=h.lt j R I
     omega
    ·rw[<-W]
     exact l j A U t q R I G N
  ·by_cases A:base<=j/\j<base+δ.new.length
   ·obtain⟨y,hy,rfl⟩:=c j A
    have L:=o i a b B;rcases(d.fresh y R hy C).2 with hf|⟨t,q,G,N,W⟩
    ·have:=h.lt i b L
     omega
    ·rw[<-W]
     exact(l i a (n _ T) t q b L G N).symm
   ·exact h.sep i j b R P (r i a T) (g j A U) (o i a b B) (o j A R C)
 ·intro i b s m
  by_cases a:base<=i/\i<base+δ.new.length
  ·obtain⟨x,S,rfl⟩:=c i a
   rcases(d.fresh x b S m).2 with hf|⟨t,q,G,N,W⟩
   ·exact hM _ hf
   ·rw[<-W];exact h.own t q (f _ (od G)) N
  ·exact h.own i b (r i a s) (o i a b m)
 ·intro i b m
  by_cases a:base<=i/\i<base+δ.new.length
  ·obtain⟨x,S,rfl⟩:=c i a
   exact(d.fresh x b S m).1
  ·exact eE (h.lt i b (o i a b m)) d.size
def zR(ν:Nu)(δ:Delta)(w:υ):O->Prop:=λk=>w.heap.size<=k\/∃i b c,(i,c)∈δ.put/\ν i=γ b/\k=b.n
def RH.EI{M:O->Prop}{ν:Nu}{H:O->AB}{δ:Delta}{w:υ}(h:RH M ν H w)(hM:∀k,w.heap.size<=k->M k)(a:∀p∈δ.put,(H p.1).wr=ε):aY (zR ν δ w) w:=
 h.eC.mono λk _ c=>c.elim (hM k) λ⟨i,b,_,d,e,f⟩=>f▸h.own i b (a _ d) e
def aY.call{ν:Nu}{δ a:Delta}{w:υ}(h:aY (zR ν δ w) w)(d:∀x∈a.put,x∈δ.put):aY (zR ν a w) w:=
 h.mono λ_ _ e=>e.imp id λ⟨i,b,c,f,g⟩=>⟨i,b,c,d _ f,g⟩
def ef.fr{M:O->Prop}{ν c:Nu}{H:O->AB}{base:O}{δ:Delta}{g w w':υ}{v:τ}(h:RH M ν H w)(d:ef ν c base δ w w' v)(a:∀p∈δ.put,(H p.1).wr=ε)(f:Fr M g w):Fr M g w':=
 f.trans ⟨d.os,d.tape,d.output,d.size,λk i j=>d.block k i λp b l m e=>j (e▸h.own p.1 b (a p l) m)⟩
def ur(P:aF)(t:ae):χ κ:=
 match P.underlying t with
 |some (.struct _)=>γ ε
 |some (.array _ _)=>γ ε
 |some _=>γ η
 |none=>ζ
def kK(P:aF)(t:ae):χ O:=(P.info? t).map (·.size)
def yQ{P:aF}{t:ae}{b:κ}(h:ur P t=γ b)(w:υ):(isAgg t).run P w=.ok b w:=by
 unfold ur at h;unfold isAgg;cases a:P.underlying t with
 |none=>simp[a]at h
 |some d=>rw[a]at h;cases d<;>simp at h<;>subst h<;>simp[fC a]
def oo{P:aF}{t:ae}{s:O}(h:kK P t=γ s)(w:υ):(si t).run P w=.ok s w:=by
 unfold kK at h;cases a:P.info? t with
 |none=>simp[a]at h
 |some i=>simp[a]at h;subst h;simp[si,wE,a]
def ij{α:Type}:E α->O->E α->E α
 |l,0,b=>b++l.drop b.length
 |[],_+1,_=>[]
 |a::l,n+1,b=>a::ij l n b
def vH{α:Type}:∀(l:E α)(n:O)(xs:E α),n<=l.length->ij l n xs=l.take n++xs++l.drop (n+xs.length)
 |l,0,xs,_=>by cases l<;>simp[ij]
 |[],n+1,_,h=>by simp at h
 |a::l,n+1,xs,h=>by simp only[ij,List.take_succ_cons,oD];rw[vH l n xs (by simpa using h),Pj,ZZ]
def NU{α:Type}(l:E α)(n:O)(xs:E α)(h:n+xs.length<=l.length):(ij l n xs).length=l.length:=by rw[vH l n xs (by omega)];simp;omega
def CL{α:Type}(l:E α)(n:O)(xs:E α)(h:n+xs.length<=l.length)(k:O):(ij l n xs)[k]?=if n<=k/\k<n+xs.length then xs[k-n]?else l[k]?:=by
 rw[vH l n xs (by omega),lZ];by_cases a:k<n
 ·rw[km (by simp;omega),bi (by omega),mL,aP a]
 ·rw[pz (by simp;omega)]
  simp only[oG,DI (show n<=l.length by omega)];by_cases b:k<n+xs.length
  ·rw[aP ⟨by omega,b⟩,km (by omega)]
  ·rw[bi (by omega),pz (by omega),pA]
   congr 1
   omega
def ax.ij{ν:Nu}:∀{b:E AV}{c:E τ}(n:O){bs:E AV}{zs:E τ},ax ν b c->ax ν bs zs->ax ν (ij b n bs) (Go.Proofs.YtlmbkhplhkdhlaaGreatDoor.ij c n zs)
 |b,c,0,bs,zs,h,k=>by
  have:∀{e:Type}(l d:E e),Go.Proofs.YtlmbkhplhkdhlaaGreatDoor.ij l 0 d=d++l.drop d.length:=λl d=>by cases l<;>rfl
  rw[this,this,k.length];exact k.append (h.drop _)
 |[],[],n+1,_,_,_,_=>by simp only[Go.Proofs.YtlmbkhplhkdhlaaGreatDoor.ij,ax]
 |a::b,y::c,n+1,_,_,h,k=>by simp only[ax,Go.Proofs.YtlmbkhplhkdhlaaGreatDoor.ij]at h⊢;exact⟨h.1,ax.ij n h.2 k⟩
 |[],_::_,_+1,_,_,h,_=>by simp only[ax]at h
 |_::_,[],_+1,_,_,h,_=>by simp only[ax]at h
def addr_add(n o j:O):(⟨n,o,ζ⟩:c9).add j=⟨n,o+j,ζ⟩:=by unfold zm;split<;>simp_all
def oU{w:υ}{n:O}{l:E τ}{t:ae}{a:O×O}(h:w.heap[n]?=γ (.cells l.toArray t a))(o:O):w.cell? ⟨n,o,ζ⟩=l[o]?:=by simp[World.cell?,h]
def Xr{P:aF}{t:ae}{w:υ}{n o:O}{x:τ}(a:ur P t=γ η)(h:w.cell? ⟨n,o,ζ⟩=γ x):(Dq t (.pointer (γ ⟨n,o,ζ⟩))).run P w=.ok x w:=by simp[Dq,zr,uc,yQ a,load,zL,h]
def Xq{P:aF}{t:ae}{w:υ}{n o s:O}{xs:E τ}(a:ur P t=γ ε)(hs:kK P t=γ s)(b:xs.length=s)(h:∀j x,xs[j]?=γ x->w.cell? ⟨n,o+j,ζ⟩=γ x):(Dq t (.pointer (γ ⟨n,o,ζ⟩))).run P w=.ok (.agg xs.toArray) w:=by subst b;have:=run_loadCells_list (P:=P) w ⟨n,o,ζ⟩ xs (λj x c=>by rw[addr_add];exact h j x c);simp[Dq,zr,uc,yQ a,oo hs,this]
def u5(P:aF)(H:E AB)(t:ae)(a:AV):χ Delta:=
 match a with
 | .ptr i w j k=>
  match ur P t,kK P t,H.getD i .gone with
  |some ε,γ s,.cells d _=>if j*w+k+s<=d.length then γ {val:=.agg ((d.drop (j*w+k)).take s),rd:=[i]}else ζ
  |some η,γ _,.cells d _=>(d[j*w+k]?).map λc=>{val:=c,rd:=[i]}
  |some ε,γ s,.row _ n f g _=>if f=w/\k+s<=w then γ {val:=.v (.agg (((g j).drop k).take s).toArray),rd:=[i],ap:=[ο (j<n)]}else ζ
  |some η,γ _,.row _ n f g _=>if f=w/\k<w then γ {val:=.v ((g j).getD k aX),rd:=[i],ap:=[ο (j<n)]}else ζ
  |_,_,_=>ζ
 |_=>ζ
def aJ(l:E κ):κ:=l.all id
def ef.same{ν:Nu}{base:O}{δ:Delta}{w:υ}{v:τ}(g:VR ν δ.val v)(k:δ.put=[])(c:δ.new=[]):ef ν ν base δ w w v where
 le:=Le.refl _
 b6:=λi h l=>aO h l
 val:=g
 put:=by rw[k];intro i b h;simp[eO]at h
 new:=by rw[c];intro j b h;simp at h
 os:=rfl
 tape:=rfl
 output:=rfl
 size:=aR _
 block:=λ_ _ _=>rfl
 fresh:=by rw[c];intro j b h;simp at h
 apart:=by rw[c];intro j r b s _ h;simp at h
def U7{P:aF}{H:E AB}{t:ae}{a:AV}{δ:Delta}(h:u5 P H t a=γ δ):δ.put=[]/\δ.new=[]:=by
 unfold u5 at h
 repeat(first|split at h|(simp only[dt]at h;obtain⟨c,_,rfl⟩:=h;exact⟨rfl,rfl⟩)|(simp only[ar]at h;subst h;exact⟨rfl,rfl⟩)|cases h)
def U8{P:aF}{H:E AB}{t:ae}{a:AV}{δ:Delta}{ν:Nu}{w:υ}{y:τ}(h:u5 P H t a=γ δ)(S:aJ δ.ap=ε)(T:VR ν a y)(D:∀i∈δ.rd,BR ν i (H.getD i .gone) w):∃x,(Dq t y).run P w=.ok x w/\VR ν δ.val x:=by
 unfold u5 at h;split at h
 ·rename_i i U j k
  simp only[VR]at T;obtain⟨b,G,rfl⟩:=T;split at h
  ·rename_i s W X o A p
   split at h
   ·rename_i e
    simp only[ar]at h;subst h;have d:=D i (by simp);rw[p]at d;obtain⟨I,l,m,r,B,z⟩:=d;rw[G]at m;cases m;rw[r,bF];have hll:=z.length;refine⟨_,Xq (xs:=(l.drop (j*U+k)).take s) o A (by simp;omega) ?_,?_⟩
    ·intro q x f
     rw[oU B];rw[mL]at f;split at f
     ·rwa [pA]at f
     ·cases f
    ·simp only[VR]
     exact⟨_,rfl,(z.drop _).take _⟩
   ·cases h
  ·rename_i s W X o A p
   simp only[dt]at h;obtain⟨c,hc,rfl⟩:=h;have d:=D i (by simp);rw[p]at d;obtain⟨I,l,m,r,B,z⟩:=d;rw[G]at m;cases m;rw[r,bF];obtain⟨x,f,L⟩:=z.get hc;exact⟨x,Xr o ((oU B _).trans f),L⟩
  ·rename_i s M n N g gt o A p
   split at h
   ·rename_i e
    obtain⟨rfl,e⟩:=e;simp only[ar]at h;subst h;have u:j<n:=by simpa[aJ]using S
    have d:=D i (by simp);rw[p]at d;rcases d with⟨_,h0,_⟩|⟨I,l,t',fz,m,r,B,z,Q⟩
    ·omega
    rw[G]at m;cases m;obtain⟨⟨C,R⟩,v⟩:=Q j u;refine⟨_,Xq (xs:=((g j).drop k).take s) o A (by simp;omega) ?_,?_⟩
    ·intro q x f
     rw[mL]at f;split at f
     ·rename_i hq
      rw[pA]at f;rw[oU r,show b.o+(j*N+k)+q=b.o+(j*N+(k+q)) by omega,v (k+q) (by omega)];exact f
     ·cases f
    ·simp only[VR]
   ·cases h
  ·rename_i s M n N g gt o A p
   split at h
   ·rename_i e
    obtain⟨rfl,e⟩:=e;simp only[ar]at h;subst h;have u:j<n:=by simpa[aJ]using S
    have d:=D i (by simp);rw[p]at d;rcases d with⟨_,h0,_⟩|⟨I,l,t',fz,m,r,B,z,Q⟩
    ·omega
    rw[G]at m;cases m;obtain⟨⟨C,R⟩,v⟩:=Q j u;refine⟨(g j).getD k aX,Xr o ?_,by simp only[VR]⟩;rw[oU r,v k e];simp[HG,C,e]
   ·cases h
  ·cases h
 ·cases h
def NA{P:aF}{ty:ae}{w:υ}{n o s:O}{l vs:E τ}{t:ae}{y:τ}(hs:kK P ty=γ s)(b:vs.length=s)(a:y.cells.toList=vs)(h:w.heap[n]?=γ (.cells l.toArray t (0,0)))(c:o+s<=l.length)(d:∀v∈vs,v.oneCell'=ε):(ZI ty (.pointer (γ ⟨n,o,ζ⟩)) y).run P w=.ok () (w.setRow n (ij l o vs).toArray):=by
 subst b;have H:=run_storeCells_at P n o t vs 0 l.toArray w h (by simpa using c) d;have e:y.cells.size=vs.length:=by rw[<-a];simp
 simp only[ZI,zr,storeVar];rw[vH l o vs (by omega)];simp only[iu]at H;simp[oo hs,e,a,H]
def Mk(c:κ)(x y:τ):τ:=
 match x,y with
 | .int k a,.int d b=>if k=d then .int k (bif c then a else b)else bif c then x else y
 | .bool a,.bool b=>.bool (bif c then a else b)
 | .string a,.string b=>.string (bif c then a else b)
 |_,_=>bif c then x else y
def aiG(c:κ)(x y:τ):Mk c x y=bif c then x else y:=by
 unfold Mk;split
 ·split
  ·rename_i e
   subst e;cases c<;>rfl
  ·rfl
 ·cases c<;>rfl
 ·cases c<;>rfl
 ·rfl
def ll(c:κ):E τ->E τ->E τ
 |[],[]=>[]
 |x::a,y::b=>Mk c x y::ll c a b
 |a,b=>bif c then a else b
def qa(c:κ):∀(xs a:E τ),ll c xs a=bif c then xs else a
 |[],[]=>by cases c<;>rfl
 |[],y::a=>rfl
 |x::xs,[]=>rfl
 |x::xs,y::a=>by rw[ll,aiG,qa c xs a];cases c<;>rfl
def wZ:E AV->χ (E κ)
 |[]=>γ []
 | .v (.bool b)::l=>match wZ l with
  |some a=>γ (b::a)
  |none=>ζ
 |_=>ζ
def Ra:AV->E AV->χ (κ×E κ)
 | .v (.bool c),a::b::l=>match wZ (a::b::l)with
  |some d=>γ (c,d)
  |none=>ζ
 |_,_=>ζ
def tw(p:O)(c:κ):O->E κ->E AV
 |_,[]=>[]
 |q,b::a=>.v (.bool (bif ai q p then c else b))::tw p c (q+1) a
def Q':∀{cs:E AV}{bs:E κ},wZ cs=γ bs->cs=bs.map λb=>.v (.bool b)
 |[],bs,h=>by simp only[wZ,ar]at h;subst h;rfl
 |a::l,bs,h=>by
  unfold wZ at h;split at h
  ·simp_all
  ·rename_i b f e
   cases e;split at h
   ·rename_i c d
    cases h;rw[Q' d];rfl
   ·cases h
  ·cases h
def Rb{ν:Nu}:∀{bs:E κ}{l:E τ},ax ν (bs.map λb=>.v (.bool b)) l->l=bs.map .bool
 |[],[],_=>rfl
 |b::bs,y::a,h=>by simp only[eD,ax,VR]at h;rw[h.1,Rb h.2];rfl
 |[],_::_,h=>by simp only[kp,ax]at h
 |_::_,[],h=>by simp only[eD,ax]at h
def Xy{ν:Nu}{p:O}{c:κ}:∀{bs:E κ}{q:O},p<q->ax ν (tw p c q bs) (bs.map .bool)
 |[],_,_=>by simp only[tw,kp,ax]
 |b::bs,q,h=>by
  have e:ai q p=η:=by
   cases a:ai q p with
   |false=>rfl
   |true=>have:=ci a;omega
  simp only[tw,eD,ax,VR,e,a_,bo];exact Xy (by omega)
def Xz{ν:Nu}{p:O}{c:κ}:∀{bs:E κ}{q:O},q<=p->p-q<bs.length->ax ν (tw p c q bs) (ij (bs.map .bool) (p-q) [.bool c])
 |[],_,_,h=>by simp at h
 |b::bs,q,d,f=>by
  rcases Nat.eq_or_lt_of_le d with rfl|a
  ·simp only[HP,tw,eD,ij,cn,gm,oD,List.nil_append,bF,ZZ,Z0,ax,VR,l5,aZ,bo]
   exact Xy (ft _)
  ·have e:ai q p=η:=by
    cases g:ai q p with
    |false=>rfl
    |true=>have:=ci g;omega
   rw[show p-q=(p-(q+1))+1 by omega];simp only[tw,eD,ij,ax,VR,e,a_,bo];exact Xz a (by simp only[cn]at f;omega)
def N0(P:aF)(H:E AB)(t:ae)(a x:AV):χ Delta:=
 match a,x.cells,kK P t with
 | .ptr i w j k,γ e,γ s=>
  if e.length=s/\e.all AV.flat=ε then
   match H.getD i .gone with
   | .cells h f=>(match Ra x h with
    |some (c,m)=>γ {val:=.v aX,rd:=[i],put:=[(i,.cells (tw (j*w+k) c 0 m) f)],ap:=[Δ (j*w+k) m.length]}
    |none=>if j*w+k+s<=h.length then γ {val:=.v aX,rd:=[i],put:=[(i,.cells (ij h (j*w+k) e) f)]}else ζ)
   | .row ε n p g f=>
    if p=w/\k+s<=w then
     match AV.mD e with
     |some r=>γ {val:=.v aX,rd:=[i],put:=[(i,.row ε n p (λq=>ll (ai q j) (ij (g j) k r) (g q)) f)],ap:=[ο (j<n)]}
     |none=>ζ
    else ζ
   |_=>ζ
  else ζ
 |_,_,_=>ζ
def aiV{w j q k m:O}(h:j≠q)(b:k<w)(c:m<w):j*w+k≠q*w+m:=by
 intro e;have a:(j*w+k)/w=j:=by rw[r8,aal (by omega),tX b,iu]
 have d:(q*w+m)/w=q:=by rw[r8,aal (by omega),tX c,iu]
 rw[e,d]at a;exact h a.symm
def aoy{P:aF}{H:E AB}{t:ae}{a x:AV}{δ:Delta}{ν:Nu}{w:υ}{y z:τ}{base:O}(h:N0 P H t a x=γ δ)(ho:aJ δ.ap=ε)(hv:VR ν a y)(o:VR ν x z)(hr:∀i∈δ.rd,BR ν i (H.getD i .gone) w):∃w',(ZI t y z).run P w=.ok () w'/\ef ν ν base δ w w' aX:=by
 unfold N0 at h;split at h
 ·rename_i i wd j k xs s hc hs
  simp only[VR]at hv;obtain⟨b,L,rfl⟩:=hv;split at h
  ·rename_i M
   obtain⟨A,M⟩:=M;have B:=QR hc o;have r:z.cells.toList.length=s:=by rw[<-B.length];exact A
   have h1:∀v∈z.cells.toList,v.oneCell'=ε:=by
    intro v hvm;obtain⟨q,d⟩:=HJ.1 hvm;have hql:q<xs.length:=by rw[B.length];exact(eV.1 d).1
    obtain⟨v',C,D⟩:=B.get (cV hql);rw[d]at C;cases C;exact aa' (bX.1 M _ (List.getElem_mem hql)) D
   have N:∀(bn:AB)(l:E τ)(ty:ae),w.heap[b.n]?=γ (.cells l.toArray ty (0,0))->∀l':E τ,(BR ν i bn (w.setRow b.n l'.toArray))->∀G:Delta,G.val=.v aX->G.put=[(i,bn)]->G.new=[]->
     ef ν ν base G w (w.setRow b.n l'.toArray) aX:=by
    intro bn l ty hh l' hbr G hv1 hp1 Q;refine⟨Le.refl _,λq h h'=>aO h h',by rw[hv1];simp only[VR],?_,by rw[Q];intro q bb d;simp at d,rfl,rfl,rfl,by simp,?_,by rw[Q];intro q bb d;simp at d,by rw[Q];intro q q' bb bb' _ d;simp at d⟩
    ·rw[hp1]
     intro q bb d;simp only[eO]at d;split at d
     ·rename_i e;subst e;cases d;exact hbr
     ·cases d
    ·intro q d hne
     refine Qq _ _ _ _ ?_;have:=hne (i,bn) b (by rw[hp1];simp) L;exact λe=>this e.symm
   split at h
   ·rename_i cs ty hH
    split at h
    ·rename_i c bs u
     simp only[ar]at h;subst h;have hp:j*wd+k<bs.length:=by simpa[aJ]using ho
     have f:=hr i (by simp);rw[hH]at f;obtain⟨b',l,C,D,I,R⟩:=f;rw[L]at C;cases C;rw[D,bF];have hx2:x=.v (.bool c)/\wZ cs=γ bs:=by
      unfold Ra at u;split at u
      ·split at u
       ·rename_i d
        cases u;exact⟨rfl,d⟩
       ·cases u
      ·cases u
     obtain⟨rfl,d⟩:=hx2;rw[Q' d]at R;have hl:=Rb R;subst hl;simp only[AV.cells,ar]at hc;subst hc;simp only[VR]at o;subst o;simp only[cn,gm,bF]at A;subst A;refine⟨_,NA hs r rfl I (by simp only[List.length_map];omega) h1,N _ _ _ I _ ?_ _ rfl rfl rfl⟩;refine⟨b,_,L,D,D1 _ _ _ _ _ _ I,?_⟩;have:=Xz (ν:=ν) (c:=c) (bs:=bs) (p:=j*wd+k) (q:=0) (eF _) (by simpa using hp);simpa[qL]using this
    ·split at h
     ·rename_i S
      simp only[ar]at h;subst h;have f:=hr i (by simp);rw[hH]at f;obtain⟨b',l,C,D,I,R⟩:=f;rw[L]at C;cases C;rw[D,bF];have hll:=R.length;refine⟨_,NA hs r rfl I (by omega) h1,N _ l _ I _ ?_ _ rfl rfl rfl⟩;exact⟨b,_,L,D,D1 _ _ _ _ _ _ I,ax.ij _ R B⟩
     ·cases h
   ·rename_i n w' g ty hH
    split at h
    ·rename_i S
     obtain⟨rfl,S⟩:=S;split at h
     ·rename_i vs hvs
      simp only[ar]at h;subst h;have hjn:j<n:=by simpa[aJ]using ho
      have T:=oR hvs B;have f:=hr i (by simp);rw[hH]at f;rcases f with⟨_,h0,_⟩|⟨b',l,t',fz,C,D,I,R,e5⟩
      ·omega
      rw[L]at C;cases C;obtain⟨rfl,eo,rfl,el,ec⟩:=I rfl;rw[eo,bF];have hmul:(j+1)*w'<=b.c*w':=iO _ (by omega);rw[fN,jS]at hmul;have hvl:vs.length=s:=by rw[<-T];exact r
      refine⟨_,NA hs r rfl D (by omega) h1,N _ l _ D _ ?_ _ rfl rfl rfl⟩;have hsl:(ij l (j*w'+k) z.cells.toList).length=l.length:=NU _ _ _ (by omega);refine .inr ⟨b,_,_,_,L,D1 _ _ _ _ _ _ D,λ_=>⟨rfl,eo,rfl,by rw[hsl];exact el,ec⟩,R,?_⟩;intro q d;obtain⟨⟨hg1,U⟩,hg2⟩:=e5 q d;obtain⟨⟨hj1,hj3⟩,hj2⟩:=e5 j hjn;by_cases W:q=j
      ·subst W
       simp only[qa,l5,aZ];refine⟨⟨by rw[NU _ _ _ (by omega)];exact hg1,λx o=>?_⟩,λm hm=>?_⟩
       ·rw[vH _ _ _ (by omega)]at o
        simp only[nD]at o;rcases o with(o|o)|o
        ·exact U x (Pf o)
        ·exact h1 x (by rw[T];exact o)
        ·exact U x (Z_ o)
       rw[CL _ _ _ (by omega),CL _ _ _ (by omega),eo,bF,r,T,hvl];by_cases hin:k<=m/\m<k+s
       ·rw[aP (by omega),aP hin]
        congr 1
        omega
       ·rw[bi (by omega),bi hin]
        have:=hg2 m hm
        rwa [eo,bF]at this
      ·have X:ai q j=η:=by
        cases X:ai q j with
        |true=>exact aO (ci X) W
        |false=>rfl
       simp only[qa,X,a_];refine⟨⟨hg1,U⟩,λm hm=>?_⟩;rw[CL _ _ _ (by omega),eo,bF,r,bi ?_]
       ·have:=hg2 m hm
        rwa [eo,bF]at this
       ·rintro⟨c1,c2⟩
        have:j*w'+k+(q*w'+m-(j*w'+k))=q*w'+m:=by omega
        exact aiV (w:=w') (j:=q) (q:=j) (k:=m) (m:=k+(q*w'+m-(j*w'+k))) W hm (by omega) (by omega)
     ·cases h
    ·cases h
   ·cases h
  ·cases h
 ·cases h
def jO(ν:Nu)(i:O)(b:Bk):Nu:=λj=>if j=i then γ b else ν j
def jr(ν:Nu)(i:O)(b:Bk):jO ν i b i=γ b:=by simp[jO]
def Hd{ν:Nu}{i:O}{b:Bk}(h:ν i=ζ):Le ν (jO ν i b):=by
 intro j x a;have:j≠i:=by rintro rfl;rw[h]at a;cases a
 simp[jO,this,a]
def ef.one{ν:Nu}{base:O}{δ:Delta}{w w':υ}{v:τ}{b:AB}{k:Bk}(u:ν base=ζ)(l:δ.new=[b])(x:k.n<w'.heap.size/\(w.heap.size<=k.n\/∃i s,eO i δ.put=γ AB.gone/\ν i=γ s/\s.n=k.n))(g:∀i c,eO i δ.put=γ c->BR (jO ν base k) i c w')(y:VR (jO ν base k) δ.val v)(m:BR (jO ν base k) base b w')(os:w'.os=w.os)(d:w'.tape=w.tape)(a:w'.output=w.output)(size:w.heap.size<=w'.heap.size)(block:∀q,q<w.heap.size->(∀p b,p∈δ.put->ν p.1=γ b->b.n≠q)->w'.heap[q]?=w.heap[q]?):ef ν (jO ν base k) base δ w w' v where
 le:=Hd u
 b6:=by
  intro i h z;rw[l];by_cases e:i=base
  ·subst e;simp
  ·simp[jO,e,h]at z
 val:=y
 put:=g
 new:=by
  rw[l];intro j c f;cases j with
  |zero=>simp at f;subst f;simpa using m
  |succ j=>simp at f
 os:=os
 tape:=d
 output:=a
 size:=size
 block:=block
 fresh:=by
  rw[l];intro j c f t;have:j=0:=by simpa using f
  subst this;simp[jO]at t;subst t;exact x
 apart:=by rw[l];intro j H c I D f r;simp at f r;omega
def ef.ye{ν:Nu}{base:O}{δ:Delta}{w w':υ}{v:τ}{b:AB}{c:O}{o:Obj}(g:ν base=ζ)(j:δ.put=[])(k:δ.new=[b])(e:w'.heap=w.heap.push o)(os:w'.os=w.os)(d:w'.tape=w.tape)(a:w'.output=w.output)(l:VR (jO ν base ⟨w.heap.size,0,c⟩) δ.val v)(f:BR (jO ν base ⟨w.heap.size,0,c⟩) base b w'):ef ν (jO ν base ⟨w.heap.size,0,c⟩) base δ w w' v:=
 ef.one g k ⟨by rw[e];simp,.inl (aR _)⟩ (by rw[j];intro i c h;simp[eO]at h) l f os d a (by rw[e];simp)
  (λq m _=>by rw[e,Zm,bi (by omega)])
def al9(a:aU Obj)(o:Obj):(a.push o)[a.size]?=γ o:=by simp
def w9(t:ae)(x:AV)(base:O):χ Delta:=(AV.cells x).map λa=>{val:=.ptr base 0 0 0,new:=[.cells a t]}
def Rc{P:aF}{t:ae}{x:AV}{base:O}{δ:Delta}{ν:Nu}{w:υ}{y:τ}(h:w9 t x base=γ δ)(d:VR ν x y)(b:ν base=ζ):∃v w' a,(ZE t y).run P w=.ok v w'/\ef ν a base δ w w' v:=by
 simp only[w9,dt]at h;obtain⟨f,e,rfl⟩:=h;refine⟨.pointer (γ ⟨w.heap.size,0,ζ⟩),w.alloc (.cells y.cells t),_,?_,ef.ye (c:=0) (o:=.cells y.cells t) b rfl rfl rfl rfl rfl rfl ?_ ?_⟩
 ·simp[ZE,newVar,newRow]
 ·simp only[VR]
  exact⟨_,jr _ _ _,by simp⟩
 ·refine⟨_,y.cells.toList,jr _ _ _,rfl,?_,(QR e d).le (Hd b)⟩
  show(w.heap.push _)[w.heap.size]?=_
  simp
def Ew(P:aF)(t:ae)(base:O):χ Delta:=
 match P.info? t with
 |some i=>match i.zero with
  |some z=>w9 t (.v z) base
  |none=>ζ
 |none=>ζ
def abi{P:aF}{t:ae}{base:O}{δ:Delta}{ν:Nu}{w:υ}(h:Ew P t base=γ δ)(b:ν base=ζ):∃v w' a,(Instr.alloc t ε (.tuple #[])).run P w=.ok v w'/\ef ν a base δ w w' v:=by
 unfold Ew at h;split at h
 ·rename_i i c
  split at h
  ·rename_i z d
   obtain⟨v,w',a,e,f⟩:=Rc (P:=P) (w:=w) (y:=z) h (by simp only[VR]) b;refine⟨v,w',a,?_,f⟩;rw[<-e];simp[Instr.alloc,ZE,D2,wE,c,d]
  ·cases h
 ·cases h
def GZ:O->O->E τ->O->E τ
 |0,_,l,_=>l.take 1
 |n+1,k,l,j=>ll (ai j k) (l.take 1) (GZ n (k+1) (l.drop 1) j)
def Xb:∀(n k:O)(l:E τ)(j:O),k<=j->j<=k+n->GZ n k l j=(l.drop (j-k)).take 1
 |0,k,l,j,a,b=>by rw[show j-k=0 by omega];rfl
 |n+1,k,l,j,a,b=>by
  rw[GZ,qa];cases h:ai j k with
  |true=>have h:=ci h;rw[show j-k=0 by omega];rfl
  |false=>
   have h:j≠k:=λe=>by rw[e,l5]at h;cases h
   rw[a_,Xb n (k+1) (l.drop 1) j (by omega) (by omega),zx]
   congr 2
   omega
def rowAt(len a:O)(l:E τ):O->E τ:=bif ai len 1 then λ_=>l else bif ai a 1&&Θ len 16 then GZ (len-1) 0 l else λj=>(l.drop (j*a)).take a
def anI{len a:O}{l:E τ}(c:l.length=len*a){j:O}(d:j<len):rowAt len a l j=(l.drop (j*a)).take a:=by
 unfold rowAt;cases h:ai len 1 with
 |false=>
  cases b:ai a 1&&Θ len 16 with
  |false=>rfl
  |true=>rw[aM]at b;have e:=ci b.1;subst e;rw[a_,aZ,Xb _ _ _ _ (eF _) (by omega),zI,qJ]
 |true=>
  have h:=ci h;subst h;have:j=0:=by omega
  subst this;rw[aZ,Nat.zero_mul,Z0,oH (by omega)]
def EH(P:aF)(t:ae)(len:O)(b:E (O×τ))(base:O):χ Delta:=
 match P.underlying t with
 |some (.slice e)=>match P.info? e with
  |some i=>match i.zero with
   |some z=>
    if len*i.size=0 then
     (match b with
     |[]=>γ {val:=.own base len,new:=[.row ε len i.size (λ_=>[]) e],ap:=[ai len 0]}
     |_=>ζ)
    else match kO (λq=>γ (q*i.size,i.size)) ((OI (len*i.size)).map (z.cells[· %z.cells.size]!)) b with
     |some a=>γ {val:=.own base len,new:=[.row ε len i.size (rowAt len i.size a.toList) e],ap:=[ai a.size (len*i.size),Θ (len*i.size) 16777216,a.toList.all Qh]}
     |none=>ζ
   |none=>ζ
  |none=>ζ
 |_=>ζ
def anK{l:E τ}{c a:O}(h:l.length=c*a)(d:∀x∈l,x.oneCell'=ε):∀j,j<c->(((l.drop (j*a)).take a).length=a/\∀x∈ (l.drop (j*a)).take a,x.oneCell'=ε)/\∀k,k<a->l[0+(j*a+k)]?=((l.drop (j*a)).take a)[k]?:=by intro j e;have b:(j+1)*a<=c*a:=iO _ e;rw[fN,jS]at b;refine⟨⟨by simp;omega,λx f=>d x (Z_ (Pf f))⟩,λk g=>?_⟩;rw[mL,aP g,pA,bF]
def abQ{P:aF}{t:ae}{len:O}{b:E (O×τ)}{base:O}{δ:Delta}{ν:Nu}{w:υ}(h:EH P t len b base=γ δ)(g:aJ δ.ap=ε)(u:ν base=ζ):∃v w' l,(ZF t len b.toArray).run P w=.ok v w'/\ef ν l base δ w w' v:=by
 unfold EH at h;split at h
 ·rename_i e y
  split at h
  ·rename_i i A
   split at h
   ·rename_i z B
    split at h
    ·rename_i k
     split at h
     ·simp only[ar]at h
      subst h;have m:len=0:=by simp only[aJ,gl,jR,iM,id]at g;exact ci g
      subst m;refine⟨.slice (γ ⟨w.heap.size,0,ζ⟩) 0 0,w.alloc (.cells #[] e),_,?_,ef.ye (c:=0) (o:=.cells #[] e) u rfl rfl rfl rfl rfl rfl ?_ ?_⟩
      ·simp[ZF,fC y,si,wE,A,kO,newRow]
       simp[OI]
      ·simp only[VR]
       exact⟨_,jr _ _ _,rfl⟩
      ·refine .inr ⟨_,[],e,(0,0),jr _ _ _,?_,λ_=>⟨rfl,rfl,rfl,by simp,by simp[jv]⟩,aR _,λj n=>by omega⟩
       show(w.heap.push _)[w.heap.size]?=_
       simp
     ·cases h
    ·rename_i d
     split at h
     ·rename_i a C
      simp only[ar]at h;subst h;simp only[aJ,gl,jR,iM,id,aM]at g;obtain⟨p,q,r⟩:=g;have s:a.size=len*i.size:=ci p;have D:=pC q;have f:len<=jv:=by
       have:0<i.size:=by
        rcases pB i.size with k|k
        ·rw[k]at d;simp at d
        ·exact k
       have H:len*1<=len*i.size:=Nat.mul_le_mul_left _ this;simp only[jv];omega
      refine⟨_,_,_,run_buildSlice w t e len b.toArray a i z y A B (by omega) d C,ef.ye (c:=len) (o:=.cells a e) u rfl rfl rfl rfl rfl rfl ?_ ?_⟩
      ·simp only[VR]
       exact⟨_,jr _ _ _,rfl⟩
      ·refine .inr ⟨_,a.toList,e,(0,0),jr _ _ _,?_,λ_=>⟨rfl,rfl,rfl,by simpa using s,f⟩,aR _,λj n=>by rw[anI (by simpa using s) n];exact anK (by simpa using s) (λx G=>bX.1 r x G) j n⟩
       show(w.heap.push _)[w.heap.size]?=_
       simp
     ·cases h
   ·cases h
  ·cases h
 ·cases h
def Gl(P:aF)(t:ae)(l c:Z)(base:O):χ Delta:=
 match P.underlying t with
 |some (.slice e)=>match P.info? e with
  |some i=>match i.zero with
   |some z=>
    if z.cells.size=i.size/\0<i.size/\i.bytes<=256/\z.cells.toList.all Qh=ε then
     γ {val:=.own base l.toNat,new:=[.row ε l.toNat i.size (λ_=>z.cells.toList) e],ap:=[ο (0<=l),ο (l<=c),ο (c<=1099511627776)]}
    else ζ
   |none=>ζ
  |none=>ζ
 |_=>ζ
def aiD{P:aF}{t:ae}{l c:Z}{kl kc:IntKind}{base:O}{δ:Delta}{ν:Nu}{w:υ}(h:Gl P t l c base=γ δ)(r:aJ δ.ap=ε)(u:ν base=ζ):∃v w' p,(Instr.makeSlice t (.int kl l) (.int kc c)).run P w=.ok v w'/\ef ν p base δ w w' v:=by
 unfold Gl at h;split at h
 ·rename_i e y
  split at h
  ·rename_i i A
   split at h
   ·rename_i z B
    split at h
    ·rename_i C
     obtain⟨b,s,D,d⟩:=C;simp only[ar]at h;subst h;simp only[aJ,gl,jR,iM,id,aM,aB]at r;obtain⟨G,H,M⟩:=r;have a:(i.bytes:Z)*c<=281474976710656:=by have:(i.bytes:Z)*c<=256*c:=Int.mul_le_mul_of_nonneg_right (by omega) (by omega);omega
     have f:=run_make (P:=P) w t e i z y A B kl kc l c G H a (by omega);refine⟨_,_,_,f,ef.ye (c:=c.toNat) (o:=.cells (Qn z.cells (c.toNat*i.size)) e) u rfl rfl rfl rfl rfl rfl ?_ ?_⟩
     ·simp only[VR]
      exact⟨_,jr _ _ _,rfl⟩
     ·refine .inr ⟨_,(Qn z.cells (c.toNat*i.size)).toList,e,(0,0),jr _ _ _,?_,λ_=>⟨rfl,rfl,rfl,by simp[Qn],by simp only[jv];omega⟩,by show l.toNat<=c.toNat;omega,?_⟩
      ·show(w.heap.push _)[w.heap.size]?=_
       simp
      ·intro j N
       have q:j<c.toNat:=by omega
       refine⟨⟨by simpa using b,λx I=>bX.1 d x I⟩,λk L=>?_⟩;have g:(j+1)*i.size<=c.toNat*i.size:=iO _ q;rw[fN,jS]at g;have m:(j*i.size+k)%z.cells.size=k:=by rw[b,r8,Nat.mul_add_mod,zF L]
       have n:k<z.cells.size:=by omega
       simp only[Qn,bF,Ho,List.getElem?_map,Array.toList_range];rw[List.getElem?_range (by omega)];simp only[zJ,m];rw[wB z.cells k n];simp[n]
    ·cases h
   ·cases h
  ·cases h
 ·cases h
def qZ(H:E AB)(s:O):AV->χ (O×O× (O->E τ)×E κ)
 | .own i m=>match H.getD i .gone with
  | .row _ n a g _=>if a=s then γ (i,m,g,[Θ m n])else ζ
  |_=>ζ
 | .sl i w j k m _=>match H.getD i .gone with
  | .row _ n a g _=>if a=s/\w=s/\k=0 then γ (i,m,λq=>g (j+q),[Θ (j+m) n])else ζ
  |_=>ζ
 |_=>ζ
structure aaZ (w:υ) (s:O) (y:τ) (m:O) (g:O->E τ):Prop where
 mk':∃(p:χ c9)(c:O)(news:E τ),y=.slice p m c/\(p=ζ->m=0)/\news.length=m*s/\(∀a,p=γ a->∀(j:O) v,news[j]?=γ v->w.cell? (a.add j)=γ v)/\
  ∀q,q<m->((g q).length=s/\∀x∈g q,x.oneCell'=ε)/\∀k,k<s->news[q*s+k]?=(g q)[k]?
def R2{w:υ}{l:E τ}{n:O}{t:ae}{f:O×O}{s m off:O}{g:O->E τ}(i:w.heap[n]?=γ (.cells l.toArray t f))(h:∀q,q<m->((g q).length=s/\∀x∈g q,x.oneCell'=ε)/\∀k,k<s->l[off+(q*s+k)]?=(g q)[k]?):∃a:E τ,a.length=m*s/\(∀(j:O) v,a[j]?=γ v->w.cell? ((⟨n,off,ζ⟩:c9).add j)=γ v)/\∀q,q<m->((g q).length=s/\∀x∈g q,x.oneCell'=ε)/\∀k,k<s->a[q*s+k]?=(g q)[k]?:=by
 refine⟨(l.drop off).take (m*s),?_,?_,?_⟩
 ·rcases pB m with rfl|y
  ·simp
  ·rcases pB s with rfl|z
   ·simp
   ·obtain⟨⟨A,_⟩,o⟩:=h (m-1) (by omega)
    have e:=o (s-1) (by omega);have p:(g (m-1))[s-1]?=γ (g (m-1))[s-1]:=cV (by omega);rw[p]at e;have r:=(eV.1 e).1;have:(m-1)*s+s=m*s:=by
     have:m=(m-1)+1:=by omega
     rw[this,fN,jS,Nat.add_sub_cancel]
    simp only[oG,oF];omega
 ·intro j v b
  rw[mL]at b;split at b
  ·rw[pA]at b
   rw[addr_add,oU i];exact b
  ·cases b
 ·intro q d
  refine⟨(h q d).1,λk u=>?_⟩;have c:(q+1)*s<=m*s:=iO _ d;rw[fN,jS]at c;rw[mL,aP (by omega),pA];exact(h q d).2 k u
def J5{H:E AB}{s:O}{x:AV}{i m:O}{g:O->E τ}{ob:E κ}{ν:Nu}{w:υ}{y:τ}(h:qZ H s x=γ (i,m,g,ob))(u:aJ ob=ε)(z:VR ν x y)(A:BR ν i (H.getD i .gone) w):aaZ w s y m g:=by
 unfold qZ at h;split at h
 ·rename_i W o
  split at h
  ·rename_i B n X S t C
   split at h
   ·rename_i e
    subst e;simp only[ar,cG]at h;obtain⟨rfl,rfl,rfl,rfl⟩:=h;simp only[VR]at z;obtain⟨b,r,rfl⟩:=z;rw[C]at A;rcases A with⟨_,_,d⟩|⟨b',l,t',fz,d,D,e3,e4,G⟩
    ·rw[r]at d;cases d
    rw[r]at d;cases d;have I:o<=n:=by simp only[aJ,gl,jR,iM,id]at u;exact pC u
    obtain⟨f,L,M,N⟩:=R2 (m:=o) (off:=b.o) D (λq T=>G q (by omega));exact⟨_,_,f,rfl,by simp,L,λa Q=>(by cases Q;exact M),N⟩
   ·cases h
  ·cases h
 ·rename_i W w' j k o cap
  split at h
  ·rename_i B n X S t C
   split at h
   ·rename_i e
    obtain⟨rfl,rfl,rfl⟩:=e;simp only[ar,cG]at h;obtain⟨rfl,rfl,rfl,rfl⟩:=h;simp only[VR]at z;obtain⟨p,c,rfl,hc,hmc,hp⟩:=z;have I:j+o<=n:=by simp only[aJ,gl,jR,iM,id]at u;exact pC u
    rcases pB c with U|U
    ·have R:o=0:=by omega
     subst R;exact⟨p,c,[],rfl,λ_=>rfl,by simp,λa _ j v hj=>by simp at hj,λq T=>by omega⟩
    ·obtain⟨b,r,rfl⟩:=hp U
     rw[C]at A;rcases A with⟨_,h00,d⟩|⟨b',l,t',fz,d,D,e3,e4,G⟩
     ·rw[r]at d;cases d
     rw[r]at d;cases d;obtain⟨f,L,M,N⟩:=R2 (m:=o) (off:=b.o+(j*w'+0)) (g:=λq=>S (j+q)) D (λq T=>by
      obtain⟨f1,f2⟩:=G (j+q) (by omega);refine⟨f1,λk hk=>?_⟩;rw[<-f2 k hk,fN]
      congr 1
      omega)
     exact⟨_,_,f,rfl,by simp,L,λa Q=>(by cases Q;exact M),N⟩
   ·cases h
  ·cases h
 ·cases h
def Ez(P:aF)(t:ae)(H:E AB)(s x:AV)(base:O):χ Delta:=
 match P.underlying t with
 |some (.slice e)=>match P.info? e with
  |some i=>match i.zero with
   |some z=>
    if z.cells.size=i.size/\0<i.size/\i.bytes<=256 then
     match qZ H i.size x with
     |some (h,m,j,k)=>
      match s with
      | .own b a=>match H.getD b .gone with
       | .row ε n l g o=>if l=i.size/\o=e then
         γ {val:=.own base (a+m),rd:=[b,h],put:=[(b,.gone)],new:=[.row ε (a+m) l (λq=>ll (Δ q a) (g q) (j (q-a))) e],ap:=Θ a n::Θ (a+m) 549755813888::k}
        else ζ
       |_=>ζ
      | .v (.slice ζ 0 0)=>γ {val:=.own base m,rd:=[h],new:=[.row ε m i.size j e],ap:=Δ 0 m::Θ m 549755813888::k}
      |_=>ζ
     |none=>ζ
    else ζ
   |none=>ζ
  |none=>ζ
 |_=>ζ
def sR(g:O->E τ):O->E τ
 |0=>[]
 |n+1=>sR g n++g n
def Sx{s m:O}{g:O->E τ}{a:E τ}(f:a.length=m*s)(h:∀q,q<m->((g q).length=s/\∀x∈g q,x.oneCell'=ε)/\∀k,k<s->a[q*s+k]?=(g q)[k]?):∀n,n<=m->sR g n=a.take (n*s)
 |0,_=>by simp[sR]
 |n+1,c=>by
  have i:=Sx f h n (by omega);obtain⟨⟨l,_⟩,j⟩:=h n (by omega);have b:(n+1)*s<=m*s:=iO _ c;rw[fN,jS]at b;have e:g n=(a.drop (n*s)).take s:=by
   apply O5;intro k;rw[mL];by_cases d:k<s
   ·rw[aP d,pA,j k d]
   ·rw[bi d,l0 (by omega)]
  rw[sR,i,e,fN,jS,List.take_add]
def JU(P:aF)(t:ae)(H:E AB)(dst b:AV):χ Delta:=
 match P.underlying t,dst with
 |some (.slice e),.sl i w j k m _=>match kK P e,H.getD i .gone,qZ H 1 b with
  |some 1,.cells c d,γ (f,a,g,h)=>γ {val:=.v (.int .i64 (wn a m:O)),rd:=[i,f],put:=[(i,.cells (ij c (j*w+k) ((sR g (wn a m)).map .v)) d)],ap:=Δ 0 m::Δ 0 a::Θ (j*w+k+wn a m) c.length::h}
  |_,_,_=>ζ
 |_,_=>ζ
def adw{P:aF}{t t' ty:ae}{H:E AB}{dst A:AV}{δ:Delta}{ν:Nu}{w:υ}{y z:τ}{base:O}(h:JU P t H dst A=γ δ)(ho:aJ δ.ap=ε)(hy:VR ν dst y)(hz:VR ν A z)(hr:∀i∈δ.rd,BR ν i (H.getD i .gone) w)(B:∀{s m:O}{r:O->E τ}{f:E τ},0<s->f.length=m*s->(∀q,q<m->((r q).length=s/\∀x∈r q,x.oneCell'=ε)/\∀k,k<s->f[q*s+k]?=(r q)[k]?)->∀v∈f,v.oneCell'=ε):∃v w',(Builtin.copy_ #[t,t'] ty #[y,z]).run P w=.ok v w'/\ef ν ν base δ w w' v:=by
 unfold JU at h;split at h
 ·rename_i e i wd j k m cap hu
  split at h
  ·rename_i cs ct ix o r ob hs hH L
   simp only[ar]at h;subst h;simp only[aJ,gl,id,aM]at ho;obtain⟨M,N,Q,R⟩:=ho;have hm:0<m:=by simpa[bS]using M
   have hmm:0<o:=by simpa[bS]using N
   have hle:=pC Q;obtain⟨pa,c,f,rfl,S,u,T,C⟩:=(J5 L R hz (hr ix (by simp))).mk';cases pa with
   |none=>have:=S rfl;omega
   |some a=>
   have D:=T a rfl;simp only[VR]at hy;obtain⟨p,c',rfl,_,hlc,hp⟩:=hy;obtain⟨b,U,rfl⟩:=hp (by omega);have G:=hr i (by simp);rw[hH]at G;obtain⟨b',l,e1,e2,e3,e4⟩:=G;rw[U]at e1;cases e1;have n:=Sx u C (wn o m) (Nat.min_le_left _ _);rw[qJ]at n u;have g:(sR r (wn o m)).length=wn o m:=by rw[n,oG,u];exact DI (Nat.min_le_left _ _)
   have hll:=e4.length;have I:=run_copy_row (P:=P) w t t' ty e b.n (j*wd+k) m c' a o c l.toArray ct (sR r (wn o m)) hu hs e3 g (λq v d=>D q v (by
    rw[n,mL]at d;split at d
    ·exact d
    ·cases d)) (by simp only[DD];omega) (λv hv=>by rw[n]at hv;exact B (s:=1) (m:=o) Nat.one_pos (by omega) C v (Pf hv))
   rw[e2,bF];refine⟨_,_,I,Le.refl _,λq h h'=>aO h h',by simp only[VR,goInt,g],?_,by intro q W d;simp at d,rfl,rfl,rfl,by simp,?_,by intro q W d;simp at d,by intro q q' W bb' _ d;simp at d⟩
   ·intro q W d
    simp only[eO]at d;split at d
    ·rename_i ee;subst ee;cases d
     refine⟨b,_,U,e2,D1 _ _ _ _ _ _ e3,?_⟩;have:=ax.ij (j*wd+k) e4 (ax.vb (ν:=ν) (sR r (wn o m)));rw[vH l _ _ (by omega)]at this;simpa using this
    ·cases d
   ·intro q d X
    refine Qq _ _ _ _ ?_;have:=X (i,_) b (je) U;exact λe=>this e.symm
  ·cases h
 ·cases h
def Ud{s len m:O}{g e:O->E τ}{l a f:E τ}(t:l.length=len*s)(u:a.length=m*s)(n:∀q,q<len->((g q).length=s/\∀x∈g q,x.oneCell'=ε)/\∀k,k<s->l[q*s+k]?=(g q)[k]?)(o:∀q,q<m->((e q).length=s/\∀x∈e q,x.oneCell'=ε)/\∀k,k<s->a[q*s+k]?=(e q)[k]?):∀j,j<len+m->(((λq=>ll (Δ q len) (g q) (e (q-len))) j).length=s/\∀x∈ (λq=>ll (Δ q len) (g q) (e (q-len))) j,x.oneCell'=ε)/\∀k,k<s->(l++a++f)[0+(j*s+k)]?=((λq=>ll (Δ q len) (g q) (e (q-len))) j)[k]?:=by
 intro j v;by_cases b:j<len
 ·have h:Δ j len=ε:=by simpa[bS]using b
  simp only[qa,h,aZ];refine⟨(n j b).1,λk i=>?_⟩;have c:(j+1)*s<=len*s:=iO _ b;rw[fN,jS]at c;rw[bF,lZ,km (by omega)];exact(n j b).2 k i
 ·have h:Δ j len=η:=by
   cases h:Δ j len with
   |true=>exact aO (by simpa[bS]using h) b
   |false=>rfl
  simp only[qa,h,a_];have d:j-len<m:=by omega
  refine⟨(o _ d).1,λk i=>?_⟩;have c:(j-len+1)*s<=m*s:=iO _ d;rw[fN,jS]at c;have p:(j-len)*s=j*s-len*s:=Nat.sub_mul ..;have r:len*s<=j*s:=iO _ (by omega);rw[bF,lZ,pz (by omega),km (by omega),<-(o _ d).2 k i]
  congr 1
  omega
def Wf{s m:O}{b:O->E τ}{a:E τ}(hs:0<s)(n:a.length=m*s)(c:∀q,q<m->((b q).length=s/\∀x∈b q,x.oneCell'=ε)/\∀k,k<s->a[q*s+k]?=(b q)[k]?):∀v∈a,v.oneCell'=ε:=by
 intro v g;obtain⟨j,d⟩:=HJ.1 g;have h:=(eV.1 d).1;have e:j/s<m:=by rw[Nat.div_lt_iff_lt_mul hs];omega
 have i:=r7 j hs;have l:j/s*s+j%s=j:=by rw[r8];exact Nat.div_add_mod j s
 have f:=(c _ e).2 _ i;rw[l,d]at f;exact(c _ e).1.2 v (g8 f.symm)
def abn{P:aF}{t ty:ae}{H:E AB}{s x:AV}{base:O}{δ:Delta}{ν:Nu}{w:υ}{ys yx:τ}(h:Ez P t H s x base=γ δ)(ho:aJ δ.ap=ε)(hs:VR ν s ys)(hx:VR ν x yx)(hb:ν base=ζ)(hr:∀i∈δ.rd,BR ν i (H.getD i .gone) w)(hlt:∀i b,ν i=γ b->b.n<w.heap.size):∃v w' ν',(qF #[t,t] ty #[ys,yx]).run P w=.ok v w'/\ef ν ν' base δ w w' v:=by
 unfold Ez at h;split at h
 ·rename_i e hu
  split at h
  ·rename_i i hi
   split at h
   ·rename_i z hz
    split at h
    ·rename_i hc
     obtain⟨hzs,hpos,hby⟩:=hc;split at h
     ·rename_i ix m gx ob hel
      split at h
      ·rename_i M d
       split at h
       ·rename_i n wd g ty' hH
        split at h
        ·rename_i hwd
         obtain⟨rfl,rfl⟩:=hwd;simp only[ar]at h;subst h;simp only[aJ,gl,id,aM]at ho;obtain⟨T,U,W⟩:=ho;have hln:=pC T;have C:=pC U;obtain⟨pa,c,f,rfl,X,p,D,y⟩:=(J5 hel W hx (hr ix (by simp))).mk';have hone:=Wf hpos p y;have hbr:=hr M (by simp);rw[hH]at hbr;rcases hbr with⟨h00,_,_⟩|⟨b,l,A,fz,e1,e2,e3,e4,e5⟩
         ·cases h00
         obtain⟨rfl,eo,rfl,el,ec⟩:=e3 rfl;simp only[VR]at hs;obtain⟨b',N,rfl⟩:=hs;rw[e1]at N;cases N;have hg:∀q,q<d->((g q).length=i.size/\∀x∈g q,x.oneCell'=ε)/\∀k,k<i.size->(l.take (d*i.size))[q*i.size+k]?=(g q)[k]?:=by
          intro q B;obtain⟨f1,f2⟩:=e5 q (by omega);refine⟨f1,λk hk=>?_⟩;have G:(q+1)*i.size<=d*i.size:=iO _ B;rw[fN,jS]at G;rw[mL,aP (by omega)];have:=f2 k hk
          rwa [eo,bF]at this
         have hlc:d*i.size<=l.length:=by rw[el];exact iO _ (by omega)
         have u:(l.take (d*i.size)).length=d*i.size:=by simp;omega
         have I:∀(k:Bk)(w':υ)(q:O) cc,eO q [(M,AB.gone)]=γ cc->BR (jO ν base k) q cc w':=by
          intro k w' q cc B;simp only[eO]at B;split at B
          ·cases B;trivial
          ·cases B
         have lk:eO M [(M,AB.gone)]=γ .gone:=by simp[eO]
         rw[eo];cases pa with
         |none=>
          have hm0:=X rfl;subst hm0;have o:d<=b.c:=by omega
          refine⟨.slice (γ ⟨b.n,0,ζ⟩) d b.c,w,jO ν base b,?_,ef.one (b:=.row ε (d+0) i.size _ A) hb rfl ⟨hlt M b e1,.inr ⟨M,b,lk,e1,rfl⟩⟩ (I _ _) ?_ ?_ rfl rfl rfl (aR _) (λ_ _ _=>rfl)⟩
          ·simp[qF,fC hu,si,wE,hi,Zs,o,Zr,Qr]
          ·simp only[VR]
           exact⟨b,jr _ _ _,by rw[eo];rfl⟩
          ·refine .inr ⟨b,l,A,(0,0),jr _ _ _,e2,λ_=>⟨rfl,eo,rfl,el,ec⟩,by omega,λq B=>?_⟩
           have N:Δ q d=ε:=by simpa[bS]using B
           simp only[qa,N,aZ];exact e5 q (by omega)
         |some a=>
         have Q:=D a rfl;by_cases o:d+m<=b.c
         ·have L:d*i.size+f.length<=l.toArray.size:=by simp only[DD];rw[p,el,<-fN];exact iO _ o
          have r:=run_append_room (P:=P) w t ty A i hu hi b.n d b.c l.toArray e2 a m c f p Q hone o L;refine⟨_,_,jO ν base b,r,ef.one (b:=.row ε (d+m) i.size _ A) hb rfl ⟨by simpa using hlt M b e1,.inr ⟨M,b,lk,e1,rfl⟩⟩ (I _ _) ?_ ?_ rfl rfl rfl (by simp) ?_⟩
          ·simp only[VR]
           exact⟨b,jr _ _ _,by rw[eo]⟩
          ·refine .inr ⟨b,_,A,(0,0),jr _ _ _,D1 _ _ _ _ _ _ e2,λ_=>⟨rfl,eo,rfl,?_,ec⟩,o,?_⟩
           ·simp only[DD]at L
            simp only[cv,oG,oF]at L⊢;omega
           ·rw[eo]
            simp only[];exact Ud u p hg y
          ·intro q B hne
           refine Qq _ _ _ _ ?_;have:=hne (M,.gone) b (by simp) e1;exact λe=>this e.symm
         ·have holds:∀(j:O) v,(l.take (d*i.size))[j]?=γ v->w.cell? ((⟨b.n,0,ζ⟩:c9).add j)=γ v:=by
           intro j v R;rw[mL]at R;split at R
           ·rw[addr_add,oU e2,bF];exact R
           ·cases R
          have S:(d+m)*i.bytes<=140737488355328:=by have:(d+m)*i.bytes<=549755813888*256:=pD C hby;omega
          have r:=run_append_grow (P:=P) w t ty A i z hu hi hz ⟨b.n,0,ζ⟩ d b.c (l.take (d*i.size)) u holds a m c f p Q (by omega) (by omega) (growslice_fits (by omega) S);have hge:=Qm w (d+m) b.c A;have hcm:lC w (d+m) b.c A<=jv:=aaS w (d+m) b.c A (by simp only[jv];omega);refine⟨_,_,jO ν base ⟨w.heap.size,0,lC w (d+m) b.c A⟩,r,ef.one (b:=.row ε (d+m) i.size _ A) hb rfl ⟨by simp,.inl (aR _)⟩ (I _ _) ?_ ?_ rfl rfl rfl (by simp) ?_⟩
          ·simp only[VR]
           exact⟨_,jr _ _ _,rfl⟩
          ·refine .inr ⟨_,(l.take (d*i.size))++f++(py z.cells (lC w (d+m) b.c A-(d+m))).toList,A,(0,0),jr _ _ _,?_,λ_=>⟨rfl,rfl,rfl,?_,hcm⟩,hge,Ud u p hg y⟩
           ·show(w.heap.push _)[w.heap.size]?=_
            simp
           ·simp only[cv,u,p,lx,aaU,hzs,<-fN]
            congr 1
            omega
          ·intro q B _
           show(w.heap.push _)[q]?=_
           rw[Zm,bi (by omega)]
        ·cases h
       ·cases h
      ·simp only[ar]at h
       subst h;simp only[aJ,gl,id,aM]at ho;obtain⟨T,U,W⟩:=ho;have hm:0<m:=by simpa[bS]using T
       have C:=pC U;obtain⟨pa,c,f,rfl,X,p,D,y⟩:=(J5 hel W hx (hr ix (by simp))).mk';cases pa with
       |none=>have:=X rfl;omega
       |some a=>
       have Q:=D a rfl;simp only[VR]at hs;subst hs;have S:m*i.bytes<=140737488355328:=by have:m*i.bytes<=549755813888*256:=pD C hby;omega
       have r:=run_append_nil (P:=P) w t ty e i z hu hi hz a m c f p Q hm (by omega) (by omega);have hge:=Qm w m 0 e;have hcm:lC w m 0 e<=jv:=aaS w m 0 e (by simp only[jv];omega);refine⟨_,_,jO ν base ⟨w.heap.size,0,lC w m 0 e⟩,r,ef.one (b:=.row ε m i.size gx e) hb rfl ⟨by simp,.inl (aR _)⟩ (by intro q cc B;simp[eO]at B) ?_ ?_ rfl rfl rfl (by simp) ?_⟩
       ·simp only[VR]
        exact⟨_,jr _ _ _,rfl⟩
       ·refine .inr ⟨_,f++(py z.cells (lC w m 0 e-m)).toList,e,(0,0),jr _ _ _,?_,λ_=>⟨rfl,rfl,rfl,?_,hcm⟩,hge,?_⟩
        ·show(w.heap.push _)[w.heap.size]?=_
         simp
        ·simp only[cv,p,lx,aaU,hzs,<-fN]
         congr 1
         omega
        ·intro j R
         refine⟨(y j R).1,λk hk=>?_⟩;have G:(j+1)*i.size<=m*i.size:=iO _ R;rw[fN,jS]at G;rw[bF,km (by omega)];exact(y j R).2 k hk
       ·intro q B _
        show(w.heap.push _)[q]?=_
        rw[Zm,bi (by omega)]
      ·cases h
     ·cases h
    ·cases h
   ·cases h
  ·cases h
 ·cases h
def JS(P:aF)(t:ae)(H:E AB)(x:AV):χ Delta:=
 match P.underlying t,x with
 |some (.slice e),.sl i w j 0 m _=>(match P.info? e,H.getD i .gone with
  |some a,.row ε n b g c=>(match a.zero with
   |some z=>if b=w/\z.cells.size=w/\0<w/\z.cells.toList.all Qh=ε then
     γ {val:=.v (.tuple #[]),rd:=[i],put:=[(i,.row ε n b (λq=>ll (Θ j q&&Δ q (j+m)) z.cells.toList (g q)) c)],ap:=[Θ (j+m) n]}
    else ζ
   |none=>ζ)
  |_,_=>ζ)
 |_,_=>ζ
def Zk(z:aU τ)(m a:O)(h:a<m*z.size):(py z m).toList[a]?=γ (z[a%z.size]!):=by simp[py,h]
def ac6{P:aF}{t ty':ae}{H:E AB}{x:AV}{δ:Delta}{ν:Nu}{w:υ}{y:τ}{base:O}(h:JS P t H x=γ δ)(ho:aJ δ.ap=ε)(hy:VR ν x y)(hr:∀i∈δ.rd,BR ν i (H.getD i .gone) w):∃v w',(Zq #[t] ty' #[y]).run P w=.ok v w'/\ef ν ν base δ w w' v:=by
 unfold JS at h;split at h
 case h_2=>cases h
 rename_i e i wd0 j m cap hu;split at h
 case h_2=>cases h
 rename_i inf n a g ty hi hH;split at h
 case h_2=>cases h
 rename_i z hz;split at h
 case isFalse=>cases h
 rename_i hc;obtain⟨rfl,f,hw0,s⟩:=hc;simp only[ar]at h;subst h;have hle:j+m<=n:=by simpa[aJ]using ho
 simp only[VR]at hy;obtain⟨p,c,rfl,_,hmc,hp⟩:=hy;have A:=hr i (by simp);rw[hH]at A;have u:∀(w':υ) v,v=.tuple #[]->w'.os=w.os->w'.tape=w.tape->w'.output=w.output->w'.heap.size=w.heap.size->(∀q,(∀b,ν i=γ b->b.n≠q)->w'.heap[q]?=w.heap[q]?)->BR ν i (.row ε n a (λq=>ll (Θ j q&&Δ q (j+m)) z.cells.toList (g q)) ty) w'->
   ef ν ν base {val:=.v (.tuple #[]),rd:=[i],put:=[(i,.row ε n a (λq=>ll (Θ j q&&Δ q (j+m)) z.cells.toList (g q)) ty)],ap:=[Θ (j+m) n]} w w' v:=by
  intro w' v R h1 S T h4 h5 h6;refine⟨Le.refl _,λq h M=>aO h M,by simp only[VR,R],?_,by intro q U d;simp at d,h1,S,T,by omega,?_,by intro q U d;simp at d,by intro q q' U bb' _ d;simp at d⟩
  ·intro q U d
   simp only[eO]at d;split at d
   ·rename_i ee;subst ee;cases d;exact h6
   ·cases d
  ·intro q _ W
   exact h5 q λb B=>W (i,_) b je B
 by_cases hm:m=0
 ·subst hm
  refine⟨.tuple #[],w,?_,u w _ rfl rfl rfl rfl rfl (λ_ _=>rfl) ?_⟩
  ·cases p<;>simp[Zq,fC hu]
  ·have e0:(λq=>ll (Θ j q&&Δ q (j+0)) z.cells.toList (g q))=g:=by
    funext q
    have:(Θ j q&&Δ q (j+0))=η:=by
     cases B:(Θ j q&&Δ q (j+0))with
     |false=>rfl
     |true=>rw[aM,aT,bS]at B;omega
    rw[qa,this,a_]
   rw[e0];exact A
 ·obtain⟨b,B,rfl⟩:=hp (by omega)
  rcases A with⟨h0,_⟩|⟨b',l,t',fz,e1,e2,e3,e4,e5⟩
  ·cases h0
  rw[B]at e1;cases e1;obtain⟨rfl,N,rfl,el,ec⟩:=e3 rfl;have C:(j+m)*a<=b.c*a:=iO _ (by omega);rw[fN]at C;have D:(py z.cells m).toList.length=m*a:=by simp[py,f]
  have G:=run_storeCells_at P b.n (j*a) t' (py z.cells m).toList 0 l.toArray w e2 (by simp only[DD];omega) (by
   intro v R;obtain⟨I,r⟩:=HJ.1 R;have X:I<m*z.cells.size:=by have:=(eV.1 r).1;rw[f];omega
   rw[Zk _ _ _ X]at r;cases r;have hlt:I%z.cells.size<z.cells.size:=r7 _ (by omega);refine bX.1 s _ ?_;rw[wB z.cells _ hlt];simp)
  have hzv:∀w:υ,(D2 e).run P w=.ok z w:=λw=>by simp[D2,wE,hi,hz]
  refine⟨.tuple #[],w.setRow b.n (ij l (j*a) (py z.cells m).toList).toArray,?_,u _ _ rfl rfl rfl rfl (by simp) (λq d=>Qq _ _ _ _ λe=>d b B e.symm) ?_⟩
  ·rw[vH l _ _ (by omega)]
   have hbo:b.o+(j*a+0)=j*a:=by omega
   simp only[iu]at G;rw[hbo];cases m with
   |zero=>exact(hm rfl).elim
   |succ m=>simp only[Zq];simp[fC hu,hzv,G]
  ·refine .inr ⟨b,_,_,_,B,D1 _ _ _ _ _ _ e2,λ_=>⟨rfl,N,rfl,by rw[NU _ _ _ (by omega)];exact el,ec⟩,e4,?_⟩
   intro q d;obtain⟨⟨hg1,hg3⟩,hg2⟩:=e5 q d;have hqm:(q+1)*a<=b.c*a:=iO _ (by omega);rw[fN,jS]at hqm;cases o:(Θ j q&&Δ q (j+m))with
   |true=>
    simp only[qa,o,aZ];rw[aM,aT,bS]at o;refine⟨⟨by simpa using f,λx hx=>bX.1 s x hx⟩,λk Q=>?_⟩;have h1:j*a<=q*a:=iO _ o.1;have S:(q+1)*a<=(j+m)*a:=iO _ (by omega);rw[fN,fN,jS]at S;have T:(q-j)*a=q*a-j*a:=by rw[Nat.sub_mul]
    rw[CL _ _ _ (by omega),N,bF,D,aP (by omega),Zk _ _ _ (by rw[f];omega),f];have h4:q*a+k-j*a=k+a*(q-j):=by rw[r8 a,T];omega
    rw[h4,Nat.add_mul_mod_self_left,zF Q,wB z.cells k (by omega)];simp[f,Q]
   |false=>
    simp only[qa,o,a_];refine⟨⟨hg1,hg3⟩,λk Q=>?_⟩;have L:q<j\/j+m<=q:=by
     rcases nG q j with h|h
     ·exact .inl h
     ·rcases nG q (j+m)with M|M
      ·exfalso
       have:(Θ j q&&Δ q (j+m))=ε:=by rw[aM,aT,bS];omega
       rw[this]at o;cases o
      ·exact .inr M
    have hno:¬(j*a<=q*a+k/\q*a+k<j*a+m*a):=by
     rcases L with h|h
     ·have:=iO a (show q+1<=j by omega)
      rw[fN,jS]at this;omega
     ·have:=iO a h
      rw[fN]at this;omega
    rw[CL _ _ _ (by omega),N,bF,D,bi hno];have:=hg2 k Q
    rwa [N,bF]at this
def bN(T:E AV):cS->AV
 | .tmp t=>T.getD t .dead
 | .const v=>.v v
 | .global g=>.v (.pointer (γ ⟨g,0,ζ⟩))
 | .func f=>.fn f []
def Kz(P:aF)(S:ae)(x:AV)(f:O):χ AV:=
 match P.underlying S,x with
 |some (.struct a),.ptr i w j k=>match a[f]?with
  |some b=>match kK P b.type with
   |some (_+1)=>γ (.ptr i w j (k+b.offset))
   |_=>ζ
  |none=>ζ
 |_,_=>ζ
def ae_{P:aF}{S:ae}{x r:AV}{f:O}{ν:Nu}{y:τ}{w:υ}(h:Kz P S x f=γ r)(c:VR ν x y):∃v,(Instr.fieldAt S y f).run P w=.ok v w/\VR ν r v:=by
 unfold Kz at h;split at h
 ·rename_i a i d j k e
  split at h
  ·rename_i g l
   split at h
   ·rename_i s m
    simp only[ar]at h;subst h;simp only[VR]at c;obtain⟨b,n,rfl⟩:=c;refine⟨.pointer (γ ⟨b.n,b.o+(j*d+(k+g.offset)),ζ⟩),?_,?_⟩
    ·simp[Instr.fieldAt,fC e,l,zr,fieldPlace,oo m,addr_add]
    ·simp only[VR]
     exact⟨b,n,rfl⟩
   ·cases h
  ·cases h
 ·cases h
def Bo(P:aF)(_:E AB)(t:ae)(x d:AV):χ Delta:=
 match P.underlying t,x,d with
 |some (.array a e),.ptr i w j k,.v (.int _ n)=>match kK P e with
  |some s=>γ {val:=.ptr i w j (k+n.toNat*s),ap:=[ο (0<=n),ο (n<a)]}
  |none=>ζ
 |some (.slice e),.own i a,.v (.int _ n)=>match kK P e with
  |some s=>γ {val:=.ptr i s n.toNat 0,ap:=[ο (0<=n),ο (n<a)]}
  |none=>ζ
 |some (.slice e),.sl i w j k a _,.v (.int _ n)=>match kK P e with
  |some s=>if w=s then γ {val:=.ptr i w (j+n.toNat) k,ap:=[ο (0<=n),ο (n<a)]}else ζ
  |none=>ζ
 |_,_,_=>ζ
def Uj{P:aF}{H:E AB}{t:ae}{x a:AV}{δ:Delta}(h:Bo P H t x a=γ δ):δ.put=[]/\δ.new=[]:=by
 unfold Bo at h
 repeat(first|split at h|(simp only[ar]at h;subst h;exact⟨rfl,rfl⟩)|cases h)
def agK{P:aF}{H:E AB}{t:ae}{x g:AV}{δ:Delta}{ν:Nu}{y z:τ}{w:υ}(h:Bo P H t x g=γ δ)(a:aJ δ.ap=ε)(d:VR ν x y)(f:VR ν g z):∃v,(OU t y z).run P w=.ok v w/\VR ν δ.val v:=by
 unfold Bo at h;split at h
 ·rename_i l e i r j k u n m
  split at h
  ·rename_i s o
   simp only[ar]at h;subst h;simp only[aJ,gl,jR,iM,id,aM,aB]at a;simp only[VR]at d f;obtain⟨b,q,rfl⟩:=d;subst f;refine⟨.pointer (γ ⟨b.n,b.o+(j*r+(k+n.toNat*s)),ζ⟩),?_,?_⟩
   ·simp[OU,sc,fC m,zr,a.1,a.2,oo o,addr_add]
   ·simp only[VR]
    exact⟨b,q,rfl⟩
  ·cases h
 ·rename_i e i l u n m
  split at h
  ·rename_i s o
   simp only[ar]at h;subst h;simp only[aJ,gl,jR,iM,id,aM,aB]at a;simp only[VR]at d f;obtain⟨b,q,rfl⟩:=d;subst f;refine⟨.pointer (γ ⟨b.n,b.o+(n.toNat*s+0),ζ⟩),?_,?_⟩
   ·simp[OU,sc,fC m,a.1,a.2,oo o,addr_add]
   ·simp only[VR]
    exact⟨b,q,rfl⟩
  ·cases h
 ·rename_i e i r j k l A u n m
  split at h
  ·rename_i s o
   split at h
   ·rename_i B
    subst B;simp only[ar]at h;subst h;simp only[aJ,gl,jR,iM,id,aM,aB]at a;simp only[VR]at d f;obtain⟨p,c,rfl,_,C,D⟩:=d;subst f;obtain⟨b,q,rfl⟩:=D (by omega);refine⟨.pointer (γ ⟨b.n,b.o+((j+n.toNat)*r+k),ζ⟩),?_,?_⟩
    ·simp[OU,sc,fC m,a.1,a.2,oo o,addr_add,fN]
    ·simp only[VR]
     exact⟨b,q,rfl⟩
   ·cases h
  ·cases h
 ·cases h
def GH(P:aF)(t:ae)(cs:E AV)(off:O):χ AV:=
 match ur P t,kK P t with
 |some ε,γ s=>γ (.agg ((cs.drop off).take s))
 |some η,γ _=>cs[off]?
 |_,_=>ζ
def Wr{P:aF}{t:ae}{cs:E AV}{off:O}{r:AV}{ν:Nu}{l:E τ}{w:υ}(h:GH P t cs off=γ r)(b:ax ν cs l):∃v,(part t l.toArray off).run P w=.ok v w/\VR ν r v:=by
 unfold GH at h;split at h
 ·rename_i s a c
  simp only[ar]at h;subst h;refine⟨.agg ((l.drop off).take s).toArray,?_,?_⟩
  ·simp[part,yQ a,oo c]
  ·simp only[VR]
   exact⟨_,rfl,(b.drop _).take _⟩
 ·rename_i s a c
  obtain⟨y,d,e⟩:=b.get h;refine⟨y,?_,e⟩;simp[part,yQ a,d]
 ·cases h
def AV.parts:AV->χ (E AV)
 | .v (.agg a)=>γ (a.toList.map .v)
 | .agg b=>γ b
 |_=>ζ
def QT{ν:Nu}{a:AV}{cs:E AV}{y:τ}(h:a.parts=γ cs)(b:VR ν a y):∃l:E τ,y=.agg l.toArray/\ax ν cs l:=by
 unfold AV.parts at h;split at h
 ·rename_i c
  simp only[ar]at h;subst h;simp only[VR]at b;exact⟨c.toList,by simp[b],ax.vb _⟩
 ·simp only[ar]at h
  subst h;simp only[VR]at b;exact b
 ·cases h
def Ky(P:aF)(S:ae)(x:AV)(f:O):χ AV:=
 match P.underlying S,x.parts with
 |some (.struct a),γ c=>match a[f]?with
  |some b=>GH P b.type c b.offset
  |none=>ζ
 |_,_=>ζ
def ae9{P:aF}{S:ae}{x r:AV}{f:O}{ν:Nu}{y:τ}{w:υ}(h:Ky P S x f=γ r)(b:VR ν x y):∃v,(Instr.field S y f).run P w=.ok v w/\VR ν r v:=by
 unfold Ky at h;split at h
 ·rename_i a k c d
  split at h
  ·rename_i m e
   obtain⟨l,rfl,g⟩:=QT d b;obtain⟨v,i,j⟩:=Wr (w:=w) h g;refine⟨v,?_,j⟩;simp[Instr.field,fC c,e,asAgg,i]
  ·cases h
 ·cases h
def ce(s:ρ)(n:Z):Z:=((s.data[n.toNat]!).toNat:O)
def Ls(P:aF)(t:ae)(x a:AV):χ (AV×E κ):=
 match P.underlying t,a with
 |some (.array b e),.v (.int _ n)=>match kK P e,x.parts with
  |some s,γ c=>(GH P e c (n.toNat*s)).map λr=>(r,[ο (0<=n),ο (n<b)])
  |_,_=>ζ
 |some .string,.v (.int _ n)=>match x with
  | .v (.string s)=>γ (.v (.int .u8 (ce s n)),[ο (0<=n),ο (n<s.size)])
  |_=>ζ
 |_,_=>ζ
def agJ{P:aF}{t:ae}{x a r:AV}{ob:E κ}{ν:Nu}{y z:τ}{w:υ}(h:Ls P t x a=γ (r,ob))(b:aJ ob=ε)(f:VR ν x y)(d:VR ν a z):∃v,(v6 t y z).run P w=.ok v w/\VR ν r v:=by
 unfold Ls at h;split at h
 ·rename_i j e k n g
  split at h
  ·rename_i s C m o
   simp only[dt]at h;obtain⟨D,p,i⟩:=h;simp only[cG]at i;obtain⟨rfl,rfl⟩:=i;simp only[aJ,gl,jR,iM,id,aM,aB]at b;obtain⟨l,rfl,q⟩:=QT o f;obtain⟨v,u,A⟩:=Wr (w:=w) p q;simp only[VR]at d;subst d;exact⟨v,by simp[v6,sc,fC g,b.1,b.2,oo m,u],A⟩
  ·cases h
 ·rename_i k n g
  split at h
  ·rename_i s
   simp only[ar,cG]at h;obtain⟨rfl,rfl⟩:=h;simp only[aJ,gl,jR,iM,id,aM,aB]at b;simp only[VR]at f d;subst f d;refine⟨.int .u8 ((s.data[n.toNat]!).toNat:O),?_,by simp only[VR,ce]⟩;have c:n.toNat<s.size:=by omega
   have B:s[n.toNat]?=γ s[n.toNat]:=by simp[c]
   simp only[v6,sc];simp[fC g,b.1,B];have:n.toNat<s.data.size:=c;rw[wB s.data n.toNat this];rfl
  ·cases h
 ·cases h
def wY:χ AV->χ (χ Z)
 |none=>γ ζ
 |some (.v (.int _ n))=>γ (γ n)
 |_=>ζ
def CJ(P:aF)(H:E AB)(t:ae)(x:AV)(g o p:χ AV):χ Delta:=
 match P.underlying t,x,wY g,wY o,wY p with
 |some (.slice e),.own i a,γ l,γ h,γ m=>match kK P e,H.getD i .gone with
  |some s,.row _ n _ _ _=>if m.isSome&&h.isNone then ζ else
   γ {val:=.sl i s (l.getD 0).toNat 0 ((h.getD a) -(l.getD 0)).toNat (m.map λm=>(m-(l.getD 0)).toNat),rd:=[i],
       ap:=[ο (0<=l.getD 0),ο (l.getD 0<=h.getD a),ο (h.getD a<=m.getD a),ο (m.getD a<=a),Θ a n]}
  |_,_=>ζ
 |some (.slice e),.sl i w j k a f,γ l,γ h,γ m=>match kK P e with
  |some s=>if m.isSome&&h.isNone then ζ else if w=s then
   γ {val:=.sl i w (j+(l.getD 0).toNat) k ((h.getD a) -(l.getD 0)).toNat (match m with|some m=>γ (m-(l.getD 0)).toNat|none=>f.map λc=>c-(l.getD 0).toNat),
       ap:=[ο (0<=l.getD 0),ο (l.getD 0<=h.getD a),ο (h.getD a<=m.getD a),ο (m.getD a<=a)]}
   else ζ
  |none=>ζ
 |some .string,.v (.string s),γ l,γ h,γ ζ=>γ {val:=.v (.string (s.extract (l.getD 0).toNat (h.getD s.size).toNat)),ap:=[ο (0<=l.getD 0),ο (l.getD 0<=h.getD s.size),ο (h.getD s.size<=s.size)]}
 |some (.array n e),.ptr i w j k,γ ζ,γ ζ,γ ζ=>match kK P e with
  |some s=>γ {val:=.sl i s 0 (j*w+k) n (γ n)}
  |none=>ζ
 |_,_,_,_,_=>ζ
def XD{P:aF}{H:E AB}{t:ae}{x:AV}{a b c:χ AV}{δ:Delta}(h:CJ P H t x a b c=γ δ):δ.put=[]/\δ.new=[]:=by
 unfold CJ at h
 repeat(first|split at h|(simp only[ar]at h;subst h;exact⟨rfl,rfl⟩)|cases h)
inductive uh (ν:Nu):χ AV->χ τ->Prop
 |none:uh ν ζ ζ
 |some {a v}:VR ν a v->uh ν (γ a) (γ v)
def nR{ν:Nu}{a:χ AV}{v:χ τ}{n:χ Z}(h:wY a=γ n)(b:uh ν a v):(n=ζ/\v=ζ)\/∃k m,n=γ m/\v=γ (.int k m):=by
 cases b with
 |none=>simp[wY]at h;exact .inl ⟨h.symm,rfl⟩
 |some b=>
  unfold wY at h;split at h
  ·rename_i e;cases e
  ·rename_i k m e
   cases e;simp only[ar]at h;subst h;simp only[VR]at b;exact .inr ⟨k,m,rfl,by rw[b]⟩
  ·cases h
def NK{P:aF}{w:υ}{xN:κ}{len cap:O}{i j o:χ τ}{l h m:χ Z}(p:(l=ζ/\i=ζ)\/∃k n,l=γ n/\i=γ (.int k n))(r:(h=ζ/\j=ζ)\/∃k n,h=γ n/\j=γ (.int k n))(u:(m=ζ/\o=ζ)\/∃k n,m=γ n/\o=γ (.int k n))(q:(m.isSome&&h.isNone)=η)(c:0<=l.getD 0)(a:l.getD 0<=h.getD len)(b:h.getD len<=m.getD cap)(f:m.getD cap<=cap):(v7 xN len cap i j o).run P w=.ok ((l.getD 0).toNat,(h.getD len).toNat,(m.getD cap).toNat) w:=by
 rcases u with⟨rfl,rfl⟩|⟨x,g,rfl,rfl⟩
 ·rcases r with⟨rfl,rfl⟩|⟨v,d,rfl,rfl⟩
  ·rcases p with⟨rfl,rfl⟩|⟨s,t,rfl,rfl⟩
   ·simp[v7]
   ·simp at c a b f
    simp[v7,Hz,sc,c,a]
  ·rcases p with⟨rfl,rfl⟩|⟨s,t,rfl,rfl⟩
   ·simp at c a b f
    simp[v7,Hz,sc,a,b]
   ·simp at c a b f
    have:0<=d:=by omega
    have e:(d.toNat:Z)=d:=by omega
    simp[v7,Hz,sc,c,a,b,this,e]
 ·rcases r with⟨rfl,rfl⟩|⟨v,d,rfl,rfl⟩
  ·simp at q
  ·rcases p with⟨rfl,rfl⟩|⟨s,t,rfl,rfl⟩
   ·simp at c a b f
    have:0<=g:=by omega
    have e:(g.toNat:Z)=g:=by omega
    simp[v7,Hz,sc,a,b,f,this,e]
   ·simp at c a b f
    have:0<=g:=by omega
    have e:(g.toNat:Z)=g:=by omega
    have:0<=d:=by omega
    have e:(d.toNat:Z)=d:=by omega
    simp[v7,Hz,sc, *]
def EG(P:aF)(t:ae)(x y:AV)(base:O):χ Delta:=
 match P.underlying t with
 |some (.slice e)=>match P.info? e with
  |some i=>match i.zero with
   |some (.slice ζ 0 0)=>if i.size=1 then(match x,y with
    | .sl ..,.sl .. =>γ {val:=.sl base 1 0 0 2 (γ 2),new:=[.cells [x,y] e]}
    |_,_=>ζ)else ζ
   |_=>ζ
  |none=>ζ
 |_=>ζ
def QU{ν:Nu}{a b c d e:O}{f:χ O}{y:τ}(h:VR ν (.sl a b c d e f) y):∃p l c,y=.slice p l c:=by simp only[VR]at h;obtain⟨p,c,rfl,_⟩:=h;exact⟨p,_,c,rfl⟩
def ae'{s:O}(hs:s=1)(a:χ c9)(b c:O)(d:χ c9)(e f:O):kO (λq=>γ (q*s,s)) ((OI (2*s)).map ((dk ζ 0 0).cells[· %(dk ζ 0 0).cells.size]!)) [(0,.slice a b c),(1,.slice d e f)]=γ #[.slice a b c,.slice d e f]:=by
 subst hs;simp[kO,OI,qL,Array.zipIdx];apply aU.ext
 ·simp
 ·intro i j g
  have h:i<2:=by simpa using g
  match i,h with
  |0,_=>simp
  |1,_=>simp
def abO{P:aF}{t:ae}{x y:AV}{base:O}{δ:Delta}{ν:Nu}{w:υ}{n p:τ}(h:EG P t x y base=γ δ)(q:VR ν x n)(r:VR ν y p)(l:ν base=ζ):∃v w' m,(ZF t 2 #[(0,n),(1,p)]).run P w=.ok v w'/\ef ν m base δ w w' v:=by
 unfold EG at h;split at h
 ·rename_i e s
  split at h
  ·rename_i i u
   split at h
   ·rename_i z
    split at h
    ·rename_i A
     split at h
     ·rename_i B C D G H I L M N Q R S
      simp only[ar]at h;subst h;obtain⟨b,d,f,rfl⟩:=QU q;obtain⟨g,j,k,rfl⟩:=QU r;have a:=run_buildSlice (P:=P) w t e 2 #[(0,.slice b d f),(1,.slice g j k)] #[.slice b d f,.slice g j k] i (.slice ζ 0 0) s u z (by omega) (by omega) (ae' A _ _ _ _ _ _);refine⟨_,_,_,a,ef.ye (c:=2) (o:=.cells #[.slice b d f,.slice g j k] e) l rfl rfl rfl rfl rfl rfl ?_ ?_⟩
      ·simp only[VR]
       exact⟨_,2,rfl,by simp,by omega,λ_=>⟨_,jr _ _ _,rfl⟩⟩
      ·refine⟨_,[.slice b d f,.slice g j k],jr _ _ _,rfl,?_,?_⟩
       ·show(w.heap.push _)[w.heap.size]?=_
        simp
       ·simp only[ax]
        exact⟨q.le (Hd l),r.le (Hd l),trivial⟩
     ·cases h
    ·cases h
   ·cases h
  ·cases h
 ·cases h
def z'(P:aF)(t:ae)(s x:AV):χ Delta:=
 match P.underlying t,x with
 |some (.slice e),.sl _ w _ _ l _=>match P.info? e with
  |some _=>(match w with
   |0=>(match l with
    |0=>(match s with
     | .v (.slice ζ 0 0)=>γ {val:=.v (.slice ζ 0 0)}
     | .sl b c d f g h=>γ {val:=.sl b c d f g h}
     |_=>ζ)
    |_=>ζ)
   |_=>ζ)
  |none=>ζ
 |_,_=>ζ
def Q2{P:aF}{t:ae}{s x:AV}{δ:Delta}(h:z' P t s x=γ δ):δ.put=[]/\δ.new=[]:=by
 unfold z' at h
 repeat(first|split at h|(simp only[ar]at h;subst h;exact⟨rfl,rfl⟩)|cases h)
def Q3{P:aF}{t ty e:ae}{i:TypeInfo}(d:P.underlying t=γ (.slice e))(f:P.info? e=γ i)(b p:χ c9)(l c h:O)(g:l<=c)(w:υ):(qF #[t,t] ty #[.slice b l c,.slice p 0 h]).run P w=.ok (.slice b l c) w:=by
 cases p with
 |none=>cases b<;>simp[qF,fC d,si,wE,f,Zs,g,Zr,Qr]
 |some a=>cases b<;>simp[qF,fC d,si,wE,f,Zs,g,Zr,Qr,loadCells,loadCellsFrom]
def abo{P:aF}{t ty:ae}{s x:AV}{δ:Delta}{ν:Nu}{g m:τ}(h:z' P t s x=γ δ)(hs:VR ν s g)(n:VR ν x m)(w:υ):∃v,(qF #[t,t] ty #[g,m]).run P w=.ok v w/\VR ν δ.val v:=by
 unfold z' at h;split at h
 ·rename_i e a u j k l c o
  split at h
  ·rename_i i q
   split at h
   ·split at h
    ·simp only[VR]at n
     obtain⟨p,c,rfl,_,_,_⟩:=n;split at h
     ·simp only[ar]at h
      subst h;simp only[VR]at hs;subst hs;exact⟨_,Q3 o q ζ p 0 0 c (aR _) w,by simp only[VR]⟩
     ·simp only[ar]at h
      subst h;have d:=hs;simp only[VR]at d;obtain⟨b,r,rfl,_,f,_⟩:=d;exact⟨_,Q3 o q b p _ r c f w,hs⟩
     ·cases h
    ·cases h
   ·cases h
  ·cases h
 ·cases h
def an_{P:aF}{H:E AB}{t:ae}{x:AV}{lo hi mx:χ AV}{δ:Delta}{ν:Nu}{y:τ}{Q R S:χ τ}{w:υ}(h:CJ P H t x lo hi mx=γ δ)(M:aJ δ.ap=ε)(r:VR ν x y)(h1:uh ν lo Q)(h2:uh ν hi R)(h3:uh ν mx S)(hr:∀i∈δ.rd,BR ν i (H.getD i .gone) w):∃v,(Dr t y Q R S).run P w=.ok v w/\VR ν δ.val v:=by
 unfold CJ at h;split at h
 ·rename_i e i a l N m u z d A
  split at h
  ·rename_i s rw' n T g ty U hH
   split at h
   ·cases h
   ·rename_i B
    simp only[ar]at h;subst h;simp only[aJ,gl,jR,iM,id,aM,aB]at M;obtain⟨W,X,C,b4,b5⟩:=M;have hln:=pC b5;have hbr:=hr i (by simp);rw[hH]at hbr;simp only[VR]at r;obtain⟨b,D,rfl⟩:=r;rcases hbr with⟨_,_,q⟩|⟨b',_,_,_,q,_,_,e4,_⟩
    ·rw[D]at q;cases q
    rw[D]at q;cases q;have q:=D;have o:N.getD a<=m.getD (b.c:Z)/\m.getD (b.c:Z)<=b.c:=by
     cases m with
     |none=>simp at C b4⊢;omega
     |some m=>simp at C b4⊢;omega
    have G:=NK (P:=P) (w:=w) (xN:=ε) (len:=a) (cap:=b.c) (nR z h1) (nR d h2) (nR A h3) ((Dl _).mp B) W X o.1 o.2;refine⟨.slice (γ (if(m.getD (b.c:Z)).toNat=(l.getD 0).toNat then⟨b.n,b.o,ζ⟩else⟨b.n,b.o+(l.getD 0).toNat*s,ζ⟩)) ((N.getD a).toNat-(l.getD 0).toNat) ((m.getD (b.c:Z)).toNat-(l.getD 0).toNat),?_,?_⟩
    ·simp only[Dr,fO,fC u,gQ,ZH]
     rw[G];simp[oo U,addr_add];split<;>rfl
    ·simp only[VR]
     refine⟨γ (if(m.getD (b.c:Z)).toNat=(l.getD 0).toNat then⟨b.n,b.o,ζ⟩else⟨b.n,b.o+(l.getD 0).toNat*s,ζ⟩),(m.getD (b.c:Z)).toNat-(l.getD 0).toNat,?_,?_,?_,?_⟩
     ·congr 1
      omega
     ·intro c' f
      cases m with
      |none=>simp at f
      |some m=>simp at f⊢;omega
     ·omega
     ·intro hc
      exact⟨b,q,by rw[bi (by omega),iu]⟩
  ·cases h
 ·rename_i e i T j k a I l N m u z d A
  split at h
  ·rename_i s U
   split at h
   ·cases h
   ·rename_i B
    split at h
    ·rename_i hw
     subst hw;simp only[ar]at h;subst h;simp only[aJ,gl,jR,iM,id,aM,aB]at M;obtain⟨W,X,C,b4⟩:=M;simp only[VR]at r;obtain⟨p,c,rfl,hcap,hlc,hp⟩:=r;have o:N.getD a<=m.getD (c:Z)/\m.getD (c:Z)<=c:=by
      cases m with
      |none=>simp at C b4⊢;omega
      |some m=>simp at C b4⊢;omega
     have G:=NK (P:=P) (w:=w) (xN:=ε) (len:=a) (cap:=c) (nR z h1) (nR d h2) (nR A h3) ((Dl _).mp B) W X o.1 o.2;refine⟨.slice (if(m.getD (c:Z)).toNat=(l.getD 0).toNat then p else p.map (·.add ((l.getD 0).toNat*T))) ((N.getD a).toNat-(l.getD 0).toNat) ((m.getD (c:Z)).toNat-(l.getD 0).toNat),?_,?_⟩
     ·simp only[Dr,fO,fC u,gQ,ZH]
      rw[G];simp[oo U]
     ·simp only[VR]
      refine⟨if(m.getD (c:Z)).toNat=(l.getD 0).toNat then p else p.map (·.add ((l.getD 0).toNat*T)),(m.getD (c:Z)).toNat-(l.getD 0).toNat,?_,?_,?_,?_⟩
      ·congr 1
       omega
      ·intro c' f
       cases m with
       |none=>simp only[dt]at f;obtain⟨c0,hc0,rfl⟩:=f;have:=hcap c0 hc0;simp;omega
       |some m=>simp at f⊢;omega
      ·omega
      ·intro hc
       obtain⟨b,q,e2⟩:=hp (by omega);refine⟨b,q,?_⟩;rw[bi (by omega),e2,zJ,addr_add]
       congr 2
       rw[fN];omega
    ·cases h
  ·cases h
 ·rename_i s l N u z d A
  simp only[ar]at h;subst h;simp only[aJ,gl,jR,iM,id,aM,aB]at M;obtain⟨W,X,C⟩:=M;simp only[VR]at r;subst r;rcases nR A h3 with⟨_,rfl⟩|⟨_,_,L,_⟩
  ·have G:=NK (P:=P) (w:=w) (xN:=η) (len:=s.size) (cap:=s.size) (m:=ζ) (nR z h1) (nR d h2) (.inl ⟨rfl,rfl⟩) rfl W X (by simpa using C) (by simp)
   refine⟨_,?_,by simp only[VR];rfl⟩;simp only[Dr,fO,fC u,gQ,ZH];simp[G]
  ·cases L
 ·rename_i n e i T j k u z d A
  split at h
  ·rename_i s U
   simp only[ar]at h;subst h;simp only[VR]at r;obtain⟨b,G,rfl⟩:=r;rcases nR z h1 with⟨_,rfl⟩|⟨_,_,L,_⟩
   ·rcases nR d h2 with⟨_,rfl⟩|⟨_,_,L,_⟩
    ·rcases nR A h3 with⟨_,rfl⟩|⟨_,_,L,_⟩
     ·refine⟨.slice (γ ⟨b.n,b.o+(j*T+k),ζ⟩) n n,?_,?_⟩
      ·simp[Dr,fC u,zr,v7,oo U,zm]
      ·simp only[VR]
       exact⟨_,n,rfl,by simp,aR _,λ_=>⟨b,G,by simp⟩⟩
     ·cases L
    ·cases L
   ·cases L
  ·cases h
 ·cases h
abbrev Spec:=E AV->E AB->O->χ Delta
def QO(ν:Nu)(H:E AB)(δ:Delta):Prop:=∀i c j b a,(i,c)∈δ.put->j∈δ.rd->i≠j->(H.getD j .gone).live=ε->ν i=γ b->ν j=γ a->b.n≠a.n
def au(P:aF)(f:bq)(S:Spec):Prop:=
 (∀args w,(g_ f args).run P w=.ok (.enter f args) w)/\
 ∀h H a d g (c:E τ) w,S h H a=γ d->aJ d.ap=ε->ax g h c->(∀i∈d.rd,BR g i (H.getD i .gone) w)->(∀i b,g i=γ b->b.n<w.heap.size)->(∀j,j<d.new.length->g (a+j)=ζ)->QO g H d->aY (zR g d w) w->
  aH P f c.toArray w λe l=>∃v k,e=.returned v/\ef g k a d w l v
abbrev aE:=bq->χ Spec
def aK(P:aF)(Γ:aE):Prop:=∀f S,Γ f=γ S->au P f S
def jK(P:aF)(s:Sem τ):χ Delta:=(my P s).map λx=>{val:=.v x}
def MY(q:κ)(a b:AV):AV:=
 match a,b with
 | .v (.bool x),.v (.bool y)=>.v (.bool (cond q x y))
 |_,_=>cond q a b
def alV{ν:Nu}{q:κ}{a b:AV}{x y:τ}(c:VR ν a x)(d:VR ν b y):VR ν (MY q a b) (if q then x else y):=by
 unfold MY;split
 ·simp only[VR]at c d⊢
  subst c d;cases q<;>rfl
 ·cases q
  ·exact d
  ·exact c
def ym(P:aF)(t:ae)(l:E τ)(off:O):χ τ:=
 match ur P t,kK P t with
 |some ε,γ s=>γ (.agg ((l.drop off).take s).toArray)
 |some η,γ _=>l[off]?
 |_,_=>ζ
def GI{P:aF}{t:ae}{l:E τ}{off:O}{v:τ}(h:ym P t l off=γ v)(w:υ):(part t l.toArray off).run P w=.ok v w:=by
 unfold ym at h;split at h
 ·rename_i s a b
  simp only[ar]at h;subst h;simp[part,yQ a,oo b]
 ·rename_i s a b
  simp[part,yQ a,h]
 ·cases h
def AD(P:aF)(f:ae->τ->τ->χ κ)(xs d:E τ):E Field->χ κ
 |[]=>γ ε
 |c::e=>if c.name≠ "_" then(match ym P c.type xs c.offset,ym P c.type d c.offset with
  |some a,γ b=>(match f c.type a b,AD P f xs d e with
   |some q,γ r=>γ (q&&r)
   |_,_=>ζ)
  |_,_=>ζ)else ζ
def AE(P:aF)(f:τ->τ->χ κ)(e:ae)(c:O)(xs d:E τ):E O->χ κ
 |[]=>γ ε
 |i::g=>match ym P e xs (i*c),ym P e d (i*c)with
  |some a,γ b=>(match f a b,AE P f e c xs d g with
   |some q,γ r=>γ (q&&r)
   |_,_=>ζ)
  |_,_=>ζ
def cK(a b:ρ):κ:=ο (a.toList=b.toList)
def uF(P:aF):O->ae->τ->τ->χ κ
 |0,_,_,_=>ζ
 |d+1,t,x,y=>match P.underlying t,x,y with
  |some (.int _),.int k a,.int g b=>if k=g then γ (a==b)else ζ
  |some .bool,.bool a,.bool b=>γ (a==b)
  |some .string,.string a,.string b=>γ (cK a b)
  |some (.struct h),.agg c,.agg f=>if P.stoodInHeld t=η then AD P (uF P d) c.toList f.toList h.toList else ζ
  |some (.array n e),.agg c,.agg f=>(match P.info? e with
   |some _=>AE P (uF P d e) e (P.cellsOf e) c.toList f.toList (dH n)
   |none=>ζ)
  |_,_,_=>ζ
def Ac(l r:E ψ):(l==r)=ο (l=r):=by rw[Bool.eq_iff_iff];simp
def R5{P:aF}{d:O}{f:ae->τ->τ->χ κ}(e:∀t x y b,f t x y=γ b->∀w:υ,(oJ d t x y).run P w=.ok b w)(xs c:E τ):∀(a:E Field)(b:κ),AD P f xs c a=γ b->∀w:υ,(aap d xs.toArray c.toArray a).run P w=.ok b w
 |[],b,h,w=>by simp only[AD,ar]at h;subst h;simp[aap]
 |n::a,b,h,w=>by
  unfold AD at h;split at h
  ·rename_i g
   split at h
   ·rename_i x y i j
    split at h
    ·rename_i q r k l
     simp only[ar]at h;subst h;have m:=R5 e xs c a r l w;simp only[aap];rw[aP g];simp only[fO,GI i,GI j,gQ,e _ _ _ _ k];cases q
     ·simp
     ·simpa using m
    ·cases h
   ·cases h
  ·cases h
def R6{P:aF}{d:O}{e:ae}{f:τ->τ->χ κ}(g:∀x y b,f x y=γ b->∀w:υ,(oJ d e x y).run P w=.ok b w)(c:O)(xs a:E τ):∀(is:E O)(b:κ),AE P f e c xs a is=γ b->∀w:υ,(Op.eqItems d e c xs.toArray a.toArray is).run P w=.ok b w
 |[],b,h,w=>by simp only[AE,ar]at h;subst h;simp[Op.eqItems]
 |i::is,b,h,w=>by
  unfold AE at h;split at h
  ·rename_i x y j k
   split at h
   ·rename_i q r l m
    simp only[ar]at h;subst h;have n:=R6 g c xs a is r m w;simp only[Op.eqItems];simp only[fO,GI j,GI k,gQ,g _ _ _ l];cases q
    ·simp
    ·simpa using n
   ·cases h
  ·cases h
def J9{P:aF}(k:O):∀(d:O)(t:ae)(x y:τ)(b:κ),uF P d t x y=γ b->∀w:υ,(oJ (d+k) t x y).run P w=.ok b w
 |0,t,x,y,b,h,w=>by simp[uF]at h
 |d+1,t,x,y,b,h,w=>by
  have o:=J9 (P:=P) k d;rw[Pj];unfold uF at h;split at h
  ·rename_i q r a z f c
   split at h
   ·rename_i s
    subst s;cases h;exact run_equalIn_int w (d+k) t r q a f c
   ·cases h
  ·rename_i a f c
   cases h;exact run_equalIn_bool' w (d+k) t a f c
  ·rename_i a f c
   cases h;rw[run_equalIn_string w (d+k) t a f c,Ac];rfl
  ·rename_i p g j c
   split at h
   ·rename_i u
    have l:P.fieldsOf t=p:=by simp[Program.fieldsOf,c]
    rw[run_equalIn_struct w (d+k) t g j (by rw[l];exact c) u,l];have:=R5 (P:=P) (d:=d+k) (λt x y b m=>o t x y b m) g.toList j.toList p.toList b h w;simpa using this
   ·cases h
  ·rename_i n e g j c
   split at h
   ·rename_i i v
    rw[run_equalIn_array w (d+k) g j c v];have:=R6 (P:=P) (d:=d+k) (λx y b m=>o e x y b m) (P.cellsOf e) g.toList j.toList (dH n) b h w;simpa using this
   ·cases h
  ·cases h
def J6(P:aF)(d:mH)(t:ae)(x y:τ):χ Delta:=
 match d,x,y with
 | .eql,.agg a,.agg b=>if P.eqGuardType P.depth t=η then(uF P 20 t (.agg a) (.agg b)).map λq=>{val:=.v (.bool q)}else ζ
 | .neq,.agg a,.agg b=>if P.eqGuardType P.depth t=η then(uF P 20 t (.agg a) (.agg b)).map λq=>{val:=.v (.bool (!q))}else ζ
 |_,_,_=>ζ
def R4{P:aF}{a:mH}{t:ae}{ox oy:cS}{x y:τ}{δ:Delta}(h:J6 P a t x y=γ δ)(ν:Nu)(w:υ):(δ.put=[]/\δ.new=[])/\∃v,(do fB a t ox oy x y;binOp a t x y:Sem τ).run P w=.ok v w/\VR ν δ.val v:=by
 unfold J6 at h;split at h
 ·rename_i b c
  split at h
  ·rename_i d
   simp only[dt]at h;obtain⟨q,e,rfl⟩:=h;have:=J9 9980 20 t _ _ q e w;refine⟨⟨rfl,rfl⟩,.bool q,?_,by simp only[VR]⟩;simp only[fO,run_eqGuard_agg (P:=P) w .eql t ox oy b c d,gQ,run_eql_struct];rw[show(10000:O)=20+9980 from rfl,this];simp
  ·cases h
 ·rename_i b c
  split at h
  ·rename_i d
   simp only[dt]at h;obtain⟨q,e,rfl⟩:=h;have:=J9 9980 20 t _ _ q e w;refine⟨⟨rfl,rfl⟩,.bool (!q),?_,by simp only[VR]⟩;simp only[fO,run_eqGuard_agg (P:=P) w .neq t ox oy b c d,gQ,run_neq_struct];rw[show(10000:O)=20+9980 from rfl,this];simp
  ·cases h
 ·cases h
def KF(c:mH)(k:OQ)(a b:O):χ (χ O):=
 match c with
 | .add=>γ (k.format.add a b)
 | .sub=>γ (k.format.sub a b)
 | .mul=>γ (k.format.mul a b)
 |_=>ζ
def KG(e:mH)(k:OQ)(a b c d:O):χ (χ O×χ O):=
 match e with
 | .add=>γ (k.format.add a c,k.format.add b d)
 | .sub=>γ (k.format.sub a c,k.format.sub b d)
 |_=>ζ
def afw{P:aF}{c:mH}{k:OQ}{a b v:O}{t:ae}{ox oy:cS}(h:KF c k a b=γ (γ v))(w:υ):(do fB c t ox oy (.float k a) (.float k b);binOp c t (.float k a) (.float k b):Sem τ).run P w=.ok (.float k v) w:=by unfold KF at h;cases c<;>simp only[ar,reduceCtorEq]at h<;>simp[fB,binOp,Op.floatArith,h]
def afx{P:aF}{e:mH}{k:OQ}{a b c d v u:O}{t:ae}{ox oy:cS}(h:KG e k a b c d=γ (γ v,γ u))(w:υ):(do fB e t ox oy (.complex k a b) (.complex k c d);binOp e t (.complex k a b) (.complex k c d):Sem τ).run P w=.ok (.complex k v u) w:=by unfold KG at h;cases e<;>simp only[ar,cG,reduceCtorEq]at h<;>simp[fB,binOp,Op.complexOp,Op.Complex.arith,Op.floatArith,h.1,h.2]
def B5(P:aF)(d:mH)(t:ae)(x:AV)(y:τ):χ Delta:=
 match d,x,y with
 | .eql,.own _ _,.slice ζ _ _=>(match P.underlying t with
  |some (.slice _)=>γ {val:=.v (.bool η)}
  |_=>ζ)
 | .neq,.own _ _,.slice ζ _ _=>(match P.underlying t with
  |some (.slice _)=>γ {val:=.v (.bool ε)}
  |_=>ζ)
 | .eql,.sl _ _ _ _ b _,.slice ζ _ _=>(match P.underlying t with
  |some (.slice _)=>γ {val:=.v (.bool η),ap:=[ο (0<b)]}
  |_=>ζ)
 | .neq,.sl _ _ _ _ b _,.slice ζ _ _=>(match P.underlying t with
  |some (.slice _)=>γ {val:=.v (.bool ε),ap:=[ο (0<b)]}
  |_=>ζ)
 | .eql,.ptr _ _ _ _,.pointer ζ=>(match P.underlying t with
  |some (.pointer _)=>γ {val:=.v (.bool η)}
  |_=>ζ)
 | .neq,.ptr _ _ _ _,.pointer ζ=>(match P.underlying t with
  |some (.pointer _)=>γ {val:=.v (.bool ε)}
  |_=>ζ)
 |_,_,_=>ζ
def ai_{P:aF}(d:O)(t e:ae)(a:c9)(n c b f:O)(h:P.underlying t=γ (.slice e))(w:υ):(oJ (d+1) t (.slice (γ a) n c) (.slice ζ b f)).run P w=.ok η w:=by simp[oJ,fC h]
def ai9{P:aF}(d:O)(t e:ae)(a:c9)(h:P.underlying t=γ (.pointer e))(w:υ):(oJ (d+1) t (.pointer (γ a)) (.pointer ζ)).run P w=.ok η w:=by simp[oJ,fC h]
def Gt{P:aF}{t e:ae}(a:c9)(n c b d:O)(ox oy:cS)(h:P.underlying t=γ (.slice e))(w:υ):(do fB .eql t ox oy (.slice (γ a) n c) (.slice ζ b d);binOp .eql t (.slice (γ a) n c) (.slice ζ b d):Sem τ).run P w=.ok (.bool η) w/\(do fB .neq t ox oy (.slice (γ a) n c) (.slice ζ b d);binOp .neq t (.slice (γ a) n c) (.slice ζ b d):Sem τ).run P w=.ok (.bool ε) w:=by have e:(oJ 10000 t (.slice (γ a) n c) (.slice ζ b d)).run P w=.ok η w:=ai_ 9999 t e a n c b d h w;constructor<;>simp[fB,binOp,Pm,Pn,e]
def Vu{P:aF}{t e:ae}(a:c9)(ox oy:cS)(h:P.underlying t=γ (.pointer e))(w:υ):(do fB .eql t ox oy (.pointer (γ a)) (.pointer ζ);binOp .eql t (.pointer (γ a)) (.pointer ζ):Sem τ).run P w=.ok (.bool η) w/\(do fB .neq t ox oy (.pointer (γ a)) (.pointer ζ);binOp .neq t (.pointer (γ a)) (.pointer ζ):Sem τ).run P w=.ok (.bool ε) w:=by have e:(oJ 10000 t (.pointer (γ a)) (.pointer ζ)).run P w=.ok η w:=ai9 9999 t e a h w;constructor<;>simp[fB,binOp,Pm,Pn,e]
def AF(P:aF)(b:mH)(t:ae)(oy:cS)(x:AV)(y:τ):χ Delta:=
 match b,oy,x,y with
 | .eql,.const _,.err q,.nilIface=>(match P.underlying t with
  |some (.interface _)=>γ {val:=.v (.bool (!q))}
  |_=>ζ)
 | .neq,.const _,.err q,.nilIface=>(match P.underlying t with
  |some (.interface _)=>γ {val:=.v (.bool q)}
  |_=>ζ)
 |_,_,_,_=>ζ
def aeN{P:aF}(d:O)(t:ae)(c:aU (String×ae))(x:τ)(q:κ)(a:cond q (∃t' b,x=.iface t' b) (x=.nilIface))(h:P.underlying t=γ (.interface c))(w:υ):(oJ (d+1) t x .nilIface).run P w=.ok (!q) w:=by
 cases q
 ·obtain rfl:x=.nilIface:=a
  simp[oJ,fC h]
 ·obtain⟨t',b,rfl⟩:=a
  simp[oJ,fC h]
def R7{P:aF}{t:ae}{b:aU (String×ae)}{x:τ}{q:κ}(ox:cS)(c:τ)(a:cond q (∃t' d,x=.iface t' d) (x=.nilIface))(h:P.underlying t=γ (.interface b))(w:υ):(do fB .eql t ox (.const c) x .nilIface;binOp .eql t x .nilIface:Sem τ).run P w=.ok (.bool (!q)) w/\(do fB .neq t ox (.const c) x .nilIface;binOp .neq t x .nilIface:Sem τ).run P w=.ok (.bool q) w:=by
 have e:(oJ 10000 t x .nilIface).run P w=.ok (!q) w:=aeN 9999 t b x q a h w;cases q
 ·obtain rfl:x=.nilIface:=a
  constructor<;>simp[fB,binOp,Pm,Pn,e]
 ·obtain⟨t',d,rfl⟩:=a
  constructor<;>simp[fB,binOp,Pm,Pn,e]
def aeL{P:aF}{a:mH}{t:ae}{oy:cS}{x:AV}{y:τ}{δ:Delta}(h:AF P a t oy x y=γ δ):δ.put=[]/\δ.new=[]:=by unfold AF at h;split at h<;>first|(split at h<;>first|(cases h;exact⟨rfl,rfl⟩)|cases h)|cases h
def aeM{P:aF}{b:mH}{t:ae}{ox oy:cS}{x:AV}{δ:Delta}{ν:Nu}{c y:τ}(h:AF P b t oy x y=γ δ)(a:VR ν x c)(w:υ):∃v,(do fB b t ox oy c y;binOp b t c y:Sem τ).run P w=.ok v w/\VR ν δ.val v:=by
 unfold AF at h;split at h
 ·split at h
  ·rename_i d
   cases h;simp only[VR]at a;exact⟨_,(R7 ox _ a d w).1,by simp only[VR]⟩
  ·cases h
 ·split at h
  ·rename_i d
   cases h;simp only[VR]at a;exact⟨_,(R7 ox _ a d w).2,by simp only[VR]⟩
  ·cases h
 ·cases h
def ai7{P:aF}{a:mH}{t:ae}{x:AV}{y:τ}{δ:Delta}(h:B5 P a t x y=γ δ):δ.put=[]/\δ.new=[]:=by unfold B5 at h;split at h<;>first|(split at h<;>first|(cases h;exact⟨rfl,rfl⟩)|cases h)|cases h
def ai8{P:aF}{e:mH}{t:ae}{ox oy:cS}{x:AV}{δ:Delta}{ν:Nu}{f y:τ}(h:B5 P e t x y=γ δ)(i:aJ δ.ap=ε)(a:VR ν x f)(w:υ):∃v,(do fB e t ox oy f y;binOp e t f y:Sem τ).run P w=.ok v w/\VR ν δ.val v:=by
 unfold B5 at h;split at h
 ·split at h
  ·rename_i d
   cases h;simp only[VR]at a;obtain⟨b,_,rfl⟩:=a;exact⟨_,(Gt _ _ _ _ _ ox oy d w).1,by simp only[VR]⟩
  ·cases h
 ·split at h
  ·rename_i d
   cases h;simp only[VR]at a;obtain⟨b,_,rfl⟩:=a;exact⟨_,(Gt _ _ _ _ _ ox oy d w).2,by simp only[VR]⟩
  ·cases h
 ·split at h
  ·rename_i d
   cases h;simp only[VR]at a;obtain⟨p,c,rfl,_,j,g⟩:=a;have k:=aL (by simpa[aJ]using i);obtain⟨b,_,rfl⟩:=g (by omega);exact⟨_,(Gt _ _ _ _ _ ox oy d w).1,by simp only[VR]⟩
  ·cases h
 ·split at h
  ·rename_i d
   cases h;simp only[VR]at a;obtain⟨p,c,rfl,_,j,g⟩:=a;have k:=aL (by simpa[aJ]using i);obtain⟨b,_,rfl⟩:=g (by omega);exact⟨_,(Gt _ _ _ _ _ ox oy d w).2,by simp only[VR]⟩
  ·cases h
 ·split at h
  ·rename_i d
   cases h;simp only[VR]at a;obtain⟨b,_,rfl⟩:=a;exact⟨_,(Vu _ ox oy d w).1,by simp only[VR]⟩
  ·cases h
 ·split at h
  ·rename_i d
   cases h;simp only[VR]at a;obtain⟨b,_,rfl⟩:=a;exact⟨_,(Vu _ ox oy d w).2,by simp only[VR]⟩
  ·cases h
 ·cases h
def ba(a b:ρ):ρ:=a++b
def tE(l:E ψ):ρ:=⟨l.toArray⟩
def rX(z:Z):ψ:=UInt8.ofNat z.toNat
def oc(a b:ρ):κ:=Op.bytesLess a.toList b.toList
def xi(a:ρ):cK a a=ε:=bA rfl
def Ae(P:aF)(f:mH)(t:ae)(ox oy:cS)(x y:AV):χ Delta:=
 match x.ip,y.ip with
 |some (.int k a),γ (.int g b)=>
  (match f with
  | .quo=>if k=g then γ {val:=.v (.int k (k.wrap (a.tdiv b))),ap:=[!ο (b=0)]}else ζ
  | .rem=>if k=g then γ {val:=.v (.int k (a.tmod b)),ap:=[!ο (b=0)]}else ζ
  |_=>jK P (do fB f t ox oy (.int k a) (.int g b);binOp f t (.int k a) (.int g b)))
 |some (.float k a),γ (.float g b)=>(match KF f k a b with
  |some r=>if k=g then γ {val:=.v (.float k (r.getD 0)),ap:=[r.isSome]}else ζ
  |none=>jK P (do fB f t ox oy (.float k a) (.float g b);binOp f t (.float k a) (.float g b)))
 |some (.complex k a b),γ (.complex g c d)=>(match KG f k a b c d with
  |some r=>if k=g then γ {val:=.v (.complex k (r.1.getD 0) (r.2.getD 0)),ap:=[r.1.isSome,r.2.isSome]}else ζ
  |none=>jK P (do fB f t ox oy (.complex k a b) (.complex g c d);binOp f t (.complex k a b) (.complex g c d)))
 |some (.string a),γ (.string b)=>(match f with
  | .add=>γ {val:=.v (.string (ba a b)),ap:=[Θ (a.size+b.size) 9223372036854775807]}
  | .eql=>γ {val:=.v (.bool (cK a b))}
  | .neq=>γ {val:=.v (.bool (!cK a b))}
  | .lss=>γ {val:=.v (.bool (oc a b))}
  | .leq=>γ {val:=.v (.bool (oc a b||cK a b))}
  | .gtr=>γ {val:=.v (.bool (!(oc a b||cK a b)))}
  | .geq=>γ {val:=.v (.bool (!oc a b))}
  |_=>jK P (do fB f t ox oy (.string a) (.string b);binOp f t (.string a) (.string b)))
 |some j,γ i=>(match J6 P f t j i with
  |some l=>γ l
  |none=>jK P (do fB f t ox oy j i;binOp f t j i))
 |none,γ i=>(match AF P f t oy x i with
  |some l=>γ l
  |none=>B5 P f t x i)
 |_,_=>ζ
def jp{P:aF}{s:Sem τ}{δ:Delta}(h:jK P s=γ δ):δ.put=[]/\δ.new=[]:=by simp only[jK,dt]at h;obtain⟨x,_,rfl⟩:=h;exact⟨rfl,rfl⟩
def lP{P:aF}{s:Sem τ}{δ:Delta}(h:jK P s=γ δ)(ν:Nu)(w:υ):∃v,s.run P w=.ok v w/\VR ν δ.val v:=by simp only[jK,dt]at h;obtain⟨x,a,rfl⟩:=h;exact⟨x,nj a w,by simp only[VR]⟩
def Q9{P:aF}{b:mH}{t:ae}{ox oy:cS}{x y:AV}{δ:Delta}(h:Ae P b t ox oy x y=γ δ):δ.put=[]/\δ.new=[]:=by
 unfold Ae at h
 repeat(first|exact jp h|exact ai7 h|(rename_i a;cases h;exact aeL a)|(rename_i a;cases h;exact(R4 (ox:=ox) (oy:=oy) a (λ_=>ζ) default).1)|split at h|(simp only[ar]at h;subst h;exact⟨rfl,rfl⟩)|cases h)
def abI{P:aF}{s:mH}{t:ae}{ox oy:cS}{x y:AV}{δ:Delta}{ν:Nu}{z A:τ}(h:Ae P s t ox oy x y=γ δ)(m:aJ δ.ap=ε)(j:VR ν x z)(n:VR ν y A)(w:υ):∃v,(do fB s t ox oy z A;binOp s t z A:Sem τ).run P w=.ok v w/\VR ν δ.val v:=by
 unfold Ae at h;split at h
 ·rename_i k a G b g e
  have i:=iP g j;have f:=iP e n;subst i f;split at h
  ·split at h
   ·rename_i l
    subst l;simp only[ar]at h;subst h;have B:b≠0:=by simpa[aJ]using m
    exact⟨.int k (k.wrap (a.tdiv b)),by simp[fB,binOp,Op.intDiv,B],by simp only[VR]⟩
   ·cases h
  ·split at h
   ·rename_i l
    subst l;simp only[ar]at h;subst h;have B:b≠0:=by simpa[aJ]using m
    exact⟨.int k (a.tmod b),by simp[fB,binOp,Op.intDiv,B],by simp only[VR]⟩
   ·cases h
  ·exact lP h ν w
 ·rename_i k a G b g e
  have i:=iP g j;have f:=iP e n;subst i f;split at h
  ·rename_i r C
   split at h
   ·rename_i l
    subst l;simp only[ar]at h;subst h;have o:r.isSome=ε:=by simpa[aJ]using m
    obtain⟨v,rfl⟩:=r9.1 o;exact⟨.float k v,afw C w,by simp only[VR,g9]⟩
   ·cases h
  ·exact lP h ν w
 ·rename_i k a b G c d g e
  have i:=iP g j;have f:=iP e n;subst i f;split at h
  ·rename_i r C
   split at h
   ·rename_i l
    subst l;simp only[ar]at h;subst h;have o:r.1.isSome=ε/\r.2.isSome=ε:=by simpa[aJ]using m
    obtain⟨L,M⟩:=r;obtain⟨p,q⟩:=o;simp only at p q;obtain⟨v,rfl⟩:=r9.1 p;obtain⟨u,rfl⟩:=r9.1 q;exact⟨.complex k v u,afx C w,by simp only[VR,g9]⟩
   ·cases h
  ·exact lP h ν w
 ·rename_i a b g e
  have i:=iP g j;have f:=iP e n;subst i f;split at h
  ·simp only[ar]at h
   subst h;have o:a.size+b.size<=9223372036854775807:=by simpa[aJ,aT]using m
   exact⟨.string (ba a b),by simp[fB,binOp,run_string_add_sum w a b o,ba],by simp only[VR]⟩
  ·simp only[ar]at h
   subst h;exact⟨.bool (cK a b),by simp[fB,binOp,DN,Ac,cK],by simp only[VR]⟩
  ·simp only[ar]at h
   subst h;exact⟨.bool (!cK a b),by simp[fB,binOp,DN,Ac,cK],by simp only[VR]⟩
  ·simp only[ar]at h
   subst h;exact⟨.bool (oc a b),by simp[fB,binOp,DN,oc],by simp only[VR]⟩
  ·simp only[ar]at h
   subst h;exact⟨.bool ((oc a b||cK a b)),by simp[fB,binOp,DN,Ac,cK,oc],by simp only[VR]⟩
  ·simp only[ar]at h
   subst h;exact⟨.bool ((!(oc a b||cK a b))),by simp[fB,binOp,DN,Ac,cK,oc],by simp only[VR]⟩
  ·simp only[ar]at h
   subst h;exact⟨.bool ((!oc a b)),by simp[fB,binOp,DN,oc],by simp only[VR]⟩
  ·exact lP h ν w
 ·rename_i H I _ _ _ g e
  have i:=iP g j;have f:=iP e n;subst i f;split at h
  ·rename_i D
   cases h;exact(R4 D ν w).2
  ·exact lP h ν w
 ·rename_i e
  have f:=iP e n;subst f;split at h
  ·rename_i D
   cases h;exact aeM D j w
  ·exact ai8 h m j w
 ·cases h
def yn(a:cS->AV):E (O×cS)->χ (E (O×τ))
 |[]=>γ []
 |p::l=>match AV.ip (a p.2),yn a l with
  |some x,γ b=>γ ((p.1,x)::b)
  |_,_=>ζ
def MU{ν:Nu}{a:cS->AV}{σ:cS->τ}:∀{l:E (O×cS)}{ps:E (O×τ)},yn a l=γ ps->(∀p∈l,VR ν (a p.2) (σ p.2))->l.map (λp=>(p.1,σ p.2))=ps
 |[],ps,h,_=>by simp only[yn,ar]at h;subst h;rfl
 |p::l,ps,h,b=>by
  simp only[yn]at h;split at h
  ·rename_i x f c d
   simp only[ar]at h;subst h;rw[eD,MU d λq e=>b q (lB _ e),iP c (b p je)]
  ·cases h
def Sr{pl:O->χ (O×O)}{z:aU τ}{y1:τ}{b:aU τ}(h:kO pl z [(0,y1)]=γ b)(c:y1.cells= #[y1]):∃off,off<z.size/\∀y:τ,y.cells= #[y]->kO pl z [(0,y)]=γ (z.setIfInBounds off y):=by
 unfold kO at h;split at h
 ·cases h
 ·rename_i off size d
  split at h
  ·cases h
  ·rename_i a
   rw[c]at a;simp only[DD,cn,gm,bF,ne_eq,oA,aB,ue,Decidable.not_not,gt_iff_lt]at a;refine⟨off,by omega,λy e=>?_⟩;unfold kO;rw[d];simp only[e];rw[bi (by simp;omega)];simp[kO]
def abR{P:aF}{t:ae}{w:υ}{y1:τ}{A:aU τ}(a:(lz t #[(0,y1)]).run P w=.ok (.agg A) w)(r:y1.cells= #[y1]):∃(z:aU τ)(off:O),off<z.size/\∀y:τ,y.cells= #[y]->(lz t #[(0,y)]).run P w=.ok (.agg (z.setIfInBounds off y)) w:=by
 unfold lz at a;rw[fO]at a;cases h:(D2 t).run P w with
 |ok e B=>
  rw[h,gQ,fO]at a;cases j:(underlying t).run P B with
  |ok u v=>
   rw[j,gQ]at a;split at a
   ·rename_i b
    rw[fO]at a;cases c:zL P (Array.mapM (λf:Field=>do
     let s<-si f.type
     pure (f.offset,s)) b) v with
    |ok k C=>
     rw[c,gQ]at a;split at a
     ·rename_i d m
      obtain⟨off,o,p⟩:=Sr (pl:=λx=>k[x]?) m r;simp only[Ps,DT]at a;obtain⟨_,rfl⟩:=a;refine⟨e.cells,off,o,λy q=>?_⟩;unfold lz;rw[fO,h,gQ,fO,j,gQ];simp only[fO,c,gQ];rw[show kO (λx=>k[x]?) e.cells (#[(0,y)]:aU (O×τ)).toList=γ (e.cells.setIfInBounds off y)from p y q];rfl
     ·exact aO a (by simp[stuck])
    |_=>rw[c]at a;cases a
   ·rename_i n g
    rw[fO]at a;cases c:zL P (si g) v with
    |ok l C=>
     rw[c,gQ]at a;split at a
     ·rename_i d m
      obtain⟨off,o,p⟩:=Sr (pl:=λi=>γ (i*l,l)) m r;simp only[Ps,DT]at a;obtain⟨_,rfl⟩:=a;refine⟨e.cells,off,o,λy q=>?_⟩;unfold lz;rw[fO,h,gQ,fO,j,gQ];simp only[fO,c,gQ];rw[show kO (λi=>γ (i*l,l)) e.cells (#[(0,y)]:aU (O×τ)).toList=γ (e.cells.setIfInBounds off y)from p y q];rfl
     ·exact aO a (by simp[stuck])
    |_=>rw[c]at a;cases a
   ·exact aO a (by simp[stuck])
  |_=>rw[j]at a;cases a
 |_=>rw[h]at a;cases a
def Ag(P:aF)(t:ae)(x:AV):χ Delta:=
 match x,my P (lz t #[(0,.slice ζ 0 0)]),my P (lz t #[(0,.slice ζ 1 1)])with
 | .sl i w j k l c,γ (.agg b),γ (.agg d)=>match b.toList,d.toList with
  | .slice ζ 0 0::a,.slice ζ 1 1::_=>γ {val:=.agg (.sl i w j k l c::a.map .v)}
  |_,_=>ζ
 |_,_,_=>ζ
def Re{P:aF}{t:ae}{x:AV}{δ:Delta}(h:Ag P t x=γ δ):δ.put=[]/\δ.new=[]:=by
 unfold Ag at h;split at h
 ·split at h
  ·cases h;exact⟨rfl,rfl⟩
  ·cases h
 ·cases h
def abM{P:aF}{t:ae}{x:AV}{δ:Delta}{ν:Nu}{y:τ}(h:Ag P t x=γ δ)(o:VR ν x y)(w:υ):∃v,(lz t #[(0,y)]).run P w=.ok v w/\VR ν δ.val v:=by
 unfold Ag at h;split at h
 ·rename_i i N j k l c D G q H
  split at h
  ·rename_i b Q r I
   cases h;obtain⟨z,d,R,m⟩:=abR (y1:=.slice ζ 0 0) (nj q w) rfl;have g:=m (.slice ζ 0 0) rfl;have n:=m (.slice ζ 1 1) rfl;rw[nj q w]at g;rw[nj H w]at n;simp only[DT,aud,aa]at g n;have s:=o;simp only[VR]at s;obtain⟨p,u,rfl,_⟩:=s;refine⟨_,m (.slice p l u) rfl,?_⟩;have L:d=0:=by
    rcases pB d with e|A
    ·exact e
    ·have B:D[0]?=z[0]?:=by rw[g,atp (by omega)]
     have M:G[0]?=z[0]?:=by rw[n,atp (by omega)]
     rw[<-M,<-Zn,<-Zn,r,I]at B;simp at B
   subst L;have f:z.toList.set 0 (.slice ζ 0 0)=.slice ζ 0 0::b:=by rw[<-r,g,Hp]
   simp only[VR];refine⟨.slice p l u::b,?_,?_⟩
   ·congr 1
    apply fV;rw[Hp];cases C:z.toList with
    |nil=>rw[C]at f;cases f
    |cons a T=>rw[C]at f;simp only[List.set_cons_zero,lA,bo]at f;subst f;rfl
   ·simp only[ax]
    exact⟨o,ax.vb b⟩
  ·cases h
 ·cases h
def Ft{pl:O->χ (O×O)}{z:aU τ}{i:O}{y:τ}{b:E (O×τ)}(c:y.cells= #[y]):kO pl z ((i,y)::b)=match pl i with
  |none=>ζ
  |some (a,size)=>if 1≠size\/z.size<a+1 then ζ else kO pl (z.setIfInBounds a y) b:=by
 rw[kO];cases pl i with
 |none=>rfl
 |some p=>
  obtain⟨a,size⟩:=p;simp only[c];by_cases h:1≠size\/z.size<a+1
  ·rw[aP h,aP (by simpa using h)]
  ·rw[bi h,bi (by simpa using h)]
   simp
def Ss{pl:O->χ (O×O)}{z:aU τ}{i j:O}{y1 y2:τ}{k:aU τ}(h:kO pl z [(i,y1),(j,y2)]=γ k)(c:y1.cells= #[y1])(d:y2.cells= #[y2]):∃a b,a<z.size/\b<z.size/\∀x y:τ,x.cells= #[x]->y.cells= #[y]->kO pl z [(i,x),(j,y)]=γ ((z.setIfInBounds a x).setIfInBounds b y):=by
 rw[Ft c]at h;cases e:pl i with
 |none=>rw[e]at h;cases h
 |some p=>
  obtain⟨l,r⟩:=p;rw[e]at h;simp only at h;split at h
  ·cases h
  ·rename_i m
   rw[Ft d]at h;cases f:pl j with
   |none=>rw[f]at h;cases h
   |some p=>
    obtain⟨n,s⟩:=p;rw[f]at h;simp only at h;split at h
    ·cases h
    ·rename_i g
     rw[Zo]at g;refine⟨l,n,by omega,by omega,λx y o q=>?_⟩;rw[Ft o,e];simp only;rw[bi m,Ft q,f];simp only;rw[bi (by rw[Zo];exact g)];rfl
def abS{P:aF}{t:ae}{w:υ}{i j:O}{y1 y2:τ}{M:aU τ}(a:(lz t #[(i,y1),(j,y2)]).run P w=.ok (.agg M) w)(m:y1.cells= #[y1])(o:y2.cells= #[y2]):∃(z:aU τ)(c d:O),c<z.size/\d<z.size/\∀x y:τ,x.cells= #[x]->y.cells= #[y]->(lz t #[(i,x),(j,y)]).run P w=.ok (.agg ((z.setIfInBounds c x).setIfInBounds d y)) w:=by
 unfold lz at a;rw[fO]at a;cases v:(D2 t).run P w with
 |ok l N=>
  rw[v,gQ,fO]at a;cases A:(underlying t).run P N with
  |ok u L=>
   rw[A,gQ]at a;split at a
   ·rename_i b
    rw[fO]at a;cases e:zL P (Array.mapM (λf:Field=>do
     let s<-si f.type
     pure (f.offset,s)) b) L with
    |ok B Q=>
     rw[e,gQ]at a;split at a
     ·rename_i g D
      obtain⟨p,q,h,k,G⟩:=Ss (pl:=λx=>B[x]?) D m o;simp only[Ps,DT]at a;obtain⟨_,rfl⟩:=a;refine⟨l.cells,p,q,h,k,λx y H I=>?_⟩;unfold lz;rw[fO,v,gQ,fO,A,gQ];simp only[fO,e,gQ];rw[show kO (λx=>B[x]?) l.cells (#[(i,x),(j,y)]:aU (O×τ)).toList=γ ((l.cells.setIfInBounds p x).setIfInBounds q y)from G x y H I];rfl
     ·exact aO a (by simp[stuck])
    |_=>rw[e]at a;cases a
   ·rename_i n r
    rw[fO]at a;cases e:zL P (si r) L with
    |ok C Q=>
     rw[e,gQ]at a;split at a
     ·rename_i g D
      obtain⟨p,q,h,k,G⟩:=Ss (pl:=λi=>γ (i*C,C)) D m o;simp only[Ps,DT]at a;obtain⟨_,rfl⟩:=a;refine⟨l.cells,p,q,h,k,λx y H I=>?_⟩;unfold lz;rw[fO,v,gQ,fO,A,gQ];simp only[fO,e,gQ];rw[show kO (λi=>γ (i*C,C)) l.cells (#[(i,x),(j,y)]:aU (O×τ)).toList=γ ((l.cells.setIfInBounds p x).setIfInBounds q y)from G x y H I];rfl
     ·exact aO a (by simp[stuck])
    |_=>rw[e]at a;cases a
   ·exact aO a (by simp[stuck])
  |_=>rw[A]at a;cases a
 |_=>rw[v]at a;cases a
def m9(n:O):τ->κ
 | .slice ζ m _=>ai m n
 |_=>η
def ya(x y:AV):E τ->E τ->E AV
 |u::a,v::b=>(bif m9 5 u&&m9 6 v then y else bif m9 3 u&&m9 4 v then x else .v u)::ya x y a b
 |_,_=>[]
def Ve(x y:AV):∀(a b:E τ),a.length=b.length->(ya x y a b).length=a.length
 |[],[],_=>rfl
 |_::c,_::d,h=>by rw[ya,cn,cn,Ve x y c d (by simpa using h)]
def Vd(x y:AV):∀(a b:E τ)(k:O)(u v:τ),a[k]?=γ u->b[k]?=γ v->(ya x y a b)[k]?=γ (bif m9 5 u&&m9 6 v then y else bif m9 3 u&&m9 4 v then x else .v u)
 |[],_,_,_,_,h,_=>by cases h
 |_::_,[],_,_,_,_,h=>by cases h
 |_::d,_::e,0,u,v,h,c=>by simp only[kn,ar]at h c;subst h c;rfl
 |_::d,_::e,k+1,u,v,h,c=>by rw[tU]at h c;rw[ya,tU];exact Vd x y d e k u v h c
def Ly:AV->κ
 | .own .. | .sl .. =>ε
 |_=>η
def UA{ν:Nu}{a:AV}{y:τ}(h:Ly a=ε)(d:VR ν a y):y.cells= #[y]:=by
 cases a with
 |sl=>simp only[VR]at d;obtain⟨p,c,rfl,_⟩:=d;rfl
 |own=>simp only[VR]at d;obtain⟨b,_,rfl⟩:=d;rfl
 |_=>cases h
def Ah(P:aF)(t:ae)(i j:O)(x y:AV):χ Delta:=
 match Ly x&&Ly y,my P (lz t #[(i,.slice ζ 3 3),(j,.slice ζ 5 5)]),my P (lz t #[(i,.slice ζ 4 4),(j,.slice ζ 6 6)])with
 |true,γ (.agg a),γ (.agg b)=>γ {val:=.agg (ya x y a.toList b.toList)}
 |_,_,_=>ζ
def Rf{P:aF}{t:ae}{i j:O}{x y:AV}{δ:Delta}(h:Ah P t i j x y=γ δ):δ.put=[]/\δ.new=[]:=by
 unfold Ah at h;split at h
 ·cases h;exact⟨rfl,rfl⟩
 ·cases h
def abN{P:aF}{t:ae}{i j:O}{x y:AV}{δ:Delta}{ν:Nu}{l o:τ}(h:Ah P t i j x y=γ δ)(M:VR ν x l)(N:VR ν y o)(w:υ):∃v,(lz t #[(i,l),(j,o)]).run P w=.ok v w/\VR ν δ.val v:=by
 unfold Ah at h;split at h
 ·rename_i S T B Q U
  cases h;rw[aM]at B;obtain⟨z,d,f,C,D,G⟩:=abS (y1:=.slice ζ 3 3) (y2:=.slice ζ 5 5) (nj Q w) rfl rfl;have r:=G (.slice ζ 3 3) (.slice ζ 5 5) rfl rfl;have s:=G (.slice ζ 4 4) (.slice ζ 6 6) rfl rfl;rw[nj Q w]at r;rw[nj U w]at s;simp only[DT,aud,aa]at r s;refine⟨_,G l o (UA B.1 M) (UA B.2 N),?_⟩;simp only[VR];refine⟨((z.setIfInBounds d l).setIfInBounds f o).toList,rfl,?_⟩;have R:S.toList.length=z.size:=by rw[r];simp
  have W:T.toList.length=z.size:=by rw[s];simp
  refine ax.of (by rw[Ve _ _ _ _ (by rw[R,W]),R];simp) λk a v H A=>?_
  have I:k<z.size:=by have:=(eV.1 A).1;simpa using this
  have g:∀p q:τ,((z.setIfInBounds d p).setIfInBounds f q).toList[k]?=γ (if f=k then q else if d=k then p else z[k]):=λp q=>by
   rw[Zn,OH,OH,Zo];by_cases b:f=k
   ·rw[aP b,aP b,aP D]
   ·rw[bi b,bi b]
    by_cases c:d=k
    ·rw[aP c,aP c,aP C]
    ·rw[bi c,bi c,Array.getElem?_eq_getElem I]
  rw[g]at A;rw[Vd x y _ _ k _ _ (by rw[r];exact g _ _) (by rw[s];exact g _ _)]at H;simp only[ar]at H A;subst H A;by_cases b:f=k
  ·simp only[aP b];exact N
  ·simp only[bi b]
   by_cases c:d=k
   ·simp only[aP c];exact M
   ·simp only[bi c]
    have:∀(u:τ)(m n:O),m≠n->(m9 m u&&m9 n u)=η:=λu m n L=>by
     cases e:m9 m u&&m9 n u with
     |false=>rfl
     |true=>
      rw[aM]at e;unfold m9 at e;split at e
      ·exact aO ((ci e.1).symm.trans (ci e.2)) L
      ·cases e.1
    rw[this _ 5 6 (by decide),this _ 3 4 (by decide),a_,a_];simp only[VR]
 ·cases h
def Bt(P:aF)(t:ae)(x:AV):χ Delta:=
 match P.underlying t,x with
 |some (.slice _),.own _ a=>γ {val:=.v (.int .i64 a)}
 |some (.slice _),.sl _ _ _ _ a _=>γ {val:=.v (.int .i64 a)}
 |_,_=>match x.ip with
  |some v=>jK P (ON #[t] 0 #[v])
  |none=>ζ
def Rh(P:aF)(b:Builtin)(c:aU ae)(args:E AV)(H:E AB)(base:O):χ Delta:=
 match b with
 | .len=>(match args,c.toList with
  |[x],[t]=>Bt P t x
  |_,_=>ζ)
 | .append=>(match args,c.toList with
  |[s,x],[t,e]=>if t=e then(match z' P t s x with
   |some f=>γ f
   |none=>Ez P t H s x base)else ζ
  |_,_=>ζ)
 | .copy=>(match args,c.toList with
  |[d,x],[t,_]=>JU P t H d x
  |_,_=>ζ)
 | .clear=>(match args,c.toList with
  |[x],[t]=>JS P t H x
  |_,_=>ζ)
 | .max=>(match AV.mD args with
  |some a=>jK P (Builtin.max_ #[] 0 a.toArray)
  |none=>ζ)
 | .min=>(match AV.mD args with
  |some a=>jK P (Builtin.min_ #[] 0 a.toArray)
  |none=>ζ)
 | .real=>(match AV.mD args with
  |some a=>jK P (Builtin.real_ #[] 0 a.toArray)
  |none=>ζ)
 | .imag=>(match AV.mD args with
  |some a=>jK P (Builtin.imag_ #[] 0 a.toArray)
  |none=>ζ)
 | .complex=>(match AV.mD args with
  |some a=>jK P (Builtin.complex_ #[] 0 a.toArray)
  |none=>ζ)
 |_=>ζ
def Fx:AV->χ (bq×E AV)
 | .fn g a=>γ (g,a)
 | .v (.func (.func g) ⟨[]⟩ l)=>γ (g,l.toList.map .v)
 |_=>ζ
def KH{ν:Nu}{a:AV}{y:τ}{g:bq}{b:E AV}(h:Fx a=γ (g,b))(c:VR ν a y):∃l,y=.func (.func g) #[] (qI l)/\ax ν b l:=by
 unfold Fx at h;split at h
 ·cases h
  simpa only[VR]using c
 ·cases h
  simp only[VR]at c;exact⟨_,c,ax.vb _⟩
 ·cases h
def R'(P:aF)(g:bq)(args:E AV):χ Delta:=
 match P.funcs[g]?with
 |some fn=>(match fn.body with
  |none=>(match AV.mD args with
   |some a=>(match my P (g_ g a.toArray)with
    |some (.value v)=>γ {val:=.v v}
    |_=>ζ)
   |none=>ζ)
  |some _=>ζ)
 |none=>ζ
def Rm(P:aF)(Γ:aE)(c:Call)(d:cS->AV)(H:E AB)(base:O):χ Delta:=
 match c.callee with
 | .value f=>(match Fx (d f)with
  |some (g,a)=>(match Γ g with
   |some S=>S (c.args.toList.map d++a) H base
   |none=>R' P g (c.args.toList.map d++a))
  |_=>ζ)
 | .builtin b=>Rh P b c.argTypes (c.args.toList.map d) H base
 | .invoke r m=>(match d r with
  | .v (.iface t v)=>(match my P (method (P.types.size+Made.depth) t v m)with
   |some (f,x)=>(match Γ f with
    |some S=>S (.v x::c.args.toList.map d) H base
    |none=>ζ)
   |none=>ζ)
  |_=>ζ)
def bytesOf:E (E τ)->χ (E ψ)
 |[]=>γ []
 |r::a=>match r,bytesOf a with
  |[.int .u8 z],γ l=>γ (rX z::l)
  |_,_=>ζ
def w_:E (E τ)->E κ
 |[]=>[]
 |r::a=>match r with
  |[.int .u8 z]=>ο (0<=z)::ο (z<256)::w_ a
  |_=>w_ a
def Rl:∀{a:E (E τ)}{l:E ψ},bytesOf a=γ l->aJ (w_ a)=ε->l.length=a.length/\∀j (c:j<a.length)(b:j<l.length),a[j]=[.int .u8 (l[j].toNat:Z)]
 |[],l,h,_=>by simp only[bytesOf,ar]at h;subst h;exact⟨rfl,λj c=>aO c (cN _)⟩
 |r::a,l,h,d=>by
  unfold bytesOf at h;split at h
  ·rename_i z i e
   simp only[ar]at h;subst h;simp only[w_,aJ,gl,id,aM,aB]at d;obtain⟨f,g⟩:=Rl e d.2.2;refine⟨by simp[f],λj c b=>?_⟩;cases j with
   |zero=>simp only[List.getElem_cons_zero,rX,UInt8.toNat_ofNat',lA,Value.int.injEq,aa,bo];omega
   |succ j=>simpa using g j (by simpa using c) (by simpa using b)
  ·cases h
def Aj(P:aF)(H:E AB)(b dst:ae)(x:AV):χ Delta:=
 match x,P.underlying b,P.underlying dst with
 | .own i a,γ (.slice e),γ .string=>(match P.underlying e,H.getD i .gone with
  |some (.int .u8),.row _ n 1 g _=>(match bytesOf ((dH a).map g)with
   |some l=>γ {val:=.v (.string (tE l)),rd:=[i],ap:=Θ a n::w_ ((dH a).map g)}
   |none=>ζ)
  |_,_=>ζ)
 |_,_,_=>ζ
def Rk{P:aF}{H:E AB}{s d:ae}{x:AV}{δ:Delta}(h:Aj P H s d x=γ δ):δ.put=[]/\δ.new=[]:=by
 unfold Aj at h;split at h
 ·split at h
  ·split at h
   ·cases h;exact⟨rfl,rfl⟩
   ·cases h
  ·cases h
 ·cases h
def abT{P:aF}{H:E AB}{s d:ae}{x:AV}{δ:Delta}{ν:Nu}{y:τ}{w:υ}(h:Aj P H s d x=γ δ)(k:aJ δ.ap=ε)(L:∀i∈δ.rd,BR ν i (H.getD i .gone) w)(u:VR ν x y):∃v,(convert s d y).run P w=.ok v w/\VR ν δ.val v:=by
 unfold Aj at h;split at h
 ·rename_i i a e M N
  split at h
  ·rename_i rw n g t Q R
   split at h
   ·rename_i z m
    simp only[ar]at h;subst h;have o:a<=n/\aJ (w_ ((dH a).map g))=ε:=by simpa[aJ,aT]using k
    obtain⟨A,k⟩:=o;obtain⟨p,q⟩:=Rl m k;have B:=L i (by simp);rw[R]at B;simp only[VR]at u;obtain⟨b,c,rfl⟩:=u;rcases B with⟨_,_,S⟩|⟨b',l,t',fz,C,T,_,hn,U⟩
    ·rw[S]at c;cases c
    ·rw[c]at C
     cases C;refine⟨_,?_,by simp only[VR];rfl⟩;have f:z.length=a:=by simpa using p
     have D:=run_convert_bytes_back (P:=P) w s d e ⟨b.n,b.o,ζ⟩ b.c z M Q N λj W=>by
      have r:j<a:=by omega
      obtain⟨g1,X⟩:=U j (by omega);have G:=X 0 (by omega);have I:=q j (by simpa using r) W;simp only[HI,List.getElem_range]at I;rw[show(⟨b.n,b.o,ζ⟩:c9).add j=⟨b.n,b.o+j,ζ⟩ by simp[zm],oU T];simp only[qJ,iu]at G;rw[G,I];rfl
     rw[f]at D;exact D
   ·cases h
  ·cases h
 ·cases h
def fj(P:aF)(Γ:aE)(o:a6)(T:E AV)(H:E AB)(base:O):χ Delta:=
 match o.op with
 | .move x=>γ {val:=bN T x}
 | .assign x=>γ {val:=bN T x}
 | .pick c a b=>(match bN T c with
  | .v (.bool q)=>γ {val:=MY q (bN T a) (bN T b)}
  |_=>ζ)
 | .alloc t=>Ew P t base
 | .box t x=>w9 t (bN T x) base
 | .build t d=>(match yn (bN T) d.toList with
  |some p=>jK P (lz t p.toArray)
  |none=>(match d.toList with
   |[(0,o)]=>Ag P t (bN T o)
   |[(i,o),(j,B)]=>Ah P t i j (bN T o) (bN T B)
   |_=>ζ))
 | .buildSlice t h d=>(match yn (bN T) d.toList with
  |some p=>EH P t h p base
  |none=>(match h,d.toList with
   |2,[(0,x),(1,y)]=>EG P t (bN T x) (bN T y) base
   |_,_=>ζ))
 | .load t a=>u5 P H t (bN T a)
 | .store t a x=>N0 P H t (bN T a) (bN T x)
 | .nilCheck x=>(match bN T x with
  | .ptr i w j k=>γ {val:=.ptr i w j k}
  |_=>ζ)
 | .binOp u t x y _=>Ae P u t x y (bN T x) (bN T y)
 | .unOp u _ x=>(match(bN T x).ip with
  |some v=>jK P (Op.unary u v)
  |none=>ζ)
 | .convert m n x=>(match(bN T x).ip with
  |some v=>jK P (convert m n v)
  |none=>Aj P H m n (bN T x))
 | .makeInterface t x=>(match(bN T x).ip with
  |some v=>jK P (Instr.makeInterface t v)
  |none=>ζ)
 | .makeFunc (.func f) first z=>if first.size=0 then γ {val:=.fn f (z.toList.map (bN T))}else ζ
 | .makeSlice t l c=>(match bN T l,bN T c with
  | .v (.int _ l),.v (.int _ c)=>Gl P t l c base
  |_,_=>ζ)
 | .slice t x C D G=>CJ P H t (bN T x) (C.map (bN T)) (D.map (bN T)) (G.map (bN T))
 | .fieldAddr s x f=>(Kz P s (bN T x) f).map λr=>{val:=r}
 | .field s x f=>(Ky P s (bN T x) f).map λr=>{val:=r}
 | .indexAddr t x g=>Bo P H t (bN T x) (bN T g)
 | .index t x g=>(Ls P t (bN T x) (bN T g)).map λr=>{val:=r.1,ap:=r.2}
 | .extract x g=>(match bN T x with
  | .Ψ L=>(L[g]?).map λr=>{val:=r}
  | .v (.tuple A)=>(A.toList[g]?).map λr=>{val:=.v r}
  |_=>ζ)
 | .call c=>Rm P Γ c (bN T) H base
 |_=>ζ
def Dj{P:aF}{o:a6}{a:aV}{w w':υ}{next:aV->υ->Prop}{Q:dj->aV->υ->Prop}{v:τ}(h:(dl a.eval o).run P w=.ok (.value v) w')(b:next (a.put o.dst v) w'):o.wp P a w next Q:=by unfold nJ;rw[h];exact b
def asW{P:aF}{o:a6}{a:aV}{w w':υ}{next:aV->υ->Prop}{Q:dj->aV->υ->Prop}(h:(dl a.eval o).run P w=.ok .skip w')(b:next (a.put o.dst aX) w'):o.wp P a w next Q:=by unfold nJ;rw[h];exact b
def sv{ν:Nu}{a:cS->AV}{σ:cS->τ}:∀{l:E cS},(∀x∈l,VR ν (a x) (σ x))->ax ν (l.map a) (l.map σ)
 |[],_=>by simp only[kp,ax]
 |x::l,h=>by simp only[eD,ax];exact⟨h x je,sv λy b=>h y (lB _ b)⟩
def UW{P:aF}{t:ae}{x:AV}{δ:Delta}(h:Bt P t x=γ δ):δ.put=[]/\δ.new=[]:=by
 unfold Bt at h
 repeat(first|exact jp h|split at h|(simp only[ar]at h;subst h;exact⟨rfl,rfl⟩)|cases h)
def aij{P:aF}{t ty:ae}{x:AV}{δ:Delta}{ν:Nu}{y:τ}{w:υ}(h:Bt P t x=γ δ)(d:VR ν x y):∃v,(ON #[t] ty #[y]).run P w=.ok v w/\VR ν δ.val v:=by
 unfold Bt at h;split at h
 ·rename_i e i a f
  simp only[ar]at h;subst h;simp only[VR]at d;obtain⟨b,_,rfl⟩:=d;exact⟨.int .i64 a,by simp[ON,fC f,goInt],by simp only[VR]⟩
 ·rename_i e i m j k a g f
  simp only[ar]at h;subst h;simp only[VR]at d;obtain⟨p,c,rfl,_⟩:=d;exact⟨.int .i64 a,by simp[ON,fC f,goInt],by simp only[VR]⟩
 ·split at h
  ·rename_i v l
   have:=iP l d;subst this;exact lP h ν w
  ·cases h
def GA{P:aF}{Γ:aE}(hΓ:aK P Γ){o:a6}{a:aV}{T:E AV}{H:E AB}{base:O}{δ:Delta}{ν:Nu}{w:υ}{next:aV->υ->Prop}{Q:dj->aV->υ->Prop}(h:fj P Γ o T H base=γ δ)(N:aJ δ.ap=ε)(A:∀x∈o.op.operands,VR ν (bN T x) (a.eval x))(hr:∀i∈δ.rd,BR ν i (H.getD i .gone) w)(hlt:∀i b,ν i=γ b->b.n<w.heap.size)(hb:∀j,j<δ.new.length->ν (base+j)=ζ)(hsep:QO ν H δ)(htab:aY (zR ν δ w) w)(hn:∀v w' R,ef ν R base δ w w' v->next (a.put o.dst v) w'):o.wp P a w next Q:=by
 have u:∀(s:Sem τ),(∃v,s.run P w=.ok v w/\VR ν δ.val v)->δ.put=[]->δ.new=[]->(dl a.eval o=(do pure (.value (<-s)):Sem Next))->o.wp P a w next Q:=by rintro s ⟨v,U,h2⟩ hp hn' he;refine Dj (v:=v) (w':=w) ?_ (hn v w ν (ef.same h2 hp hn'));rw[he];simp[U]
 have C:∀(s:Sem τ),(∃v w' R,s.run P w=.ok v w'/\ef ν R base δ w w' v)->(dl a.eval o=(do pure (.value (<-s)):Sem Next))->o.wp P a w next Q:=by rintro s ⟨v,w',R,U,h2⟩ he;refine Dj (v:=v) (w':=w') ?_ (hn v w' R h2);rw[he];simp[U]
 obtain⟨dst,op,ty,pos,W,pJ⟩:=o;cases op with
 |move x=>simp only[fj,ar]at h;subst h;exact u (pure (a.eval x)) ⟨_,rfl,A x (by simp[eI])⟩ rfl rfl (by simp[dl])
 |assign x=>simp only[fj,ar]at h;subst h;exact u (pure (a.eval x)) ⟨_,rfl,A x (by simp[eI])⟩ rfl rfl (by simp[dl])
 |pick c x y=>
  simp only[fj]at h;split at h
  ·rename_i q hq
   simp only[ar]at h;subst h;have hc:=A c (by simp[eI]);rw[hq]at hc;simp only[VR]at hc;refine Dj (v:=if q then a.eval x else a.eval y) (w':=w) ?_ (hn _ w ν (ef.same (alV (A x (by simp[eI])) (A y (by simp[eI]))) rfl rfl));simp[dl,hc,asBool]
  ·cases h
 |alloc t=>
  simp only[fj]at h;have G:ν base=ζ:=by
   have:δ.new.length=1:=by
    unfold Ew w9 at h
    repeat(first|split at h|(simp only[dt]at h;obtain⟨c,_,rfl⟩:=h;rfl)|cases h)
   simpa using hb 0 (by omega)
  exact C _ (abi h G) rfl
 |box t x=>
  simp only[fj]at h;have G:ν base=ζ:=by
   have:δ.new.length=1:=by unfold w9 at h;simp only[dt]at h;obtain⟨c,_,rfl⟩:=h;rfl
   simpa using hb 0 (by omega)
  exact C _ (Rc h (A x (by simp[eI])) G) rfl
 |build t B=>
  simp only[fj]at h;split at h
  ·rename_i ps hps
   have:=MU (ν:=ν) (σ:=a.eval) hps (λp hp=>A p.2 (by simp only[eI,zD];exact fX.2 ⟨p,hp,rfl⟩));have e:(B.map λ(i,x)=>(i,a.eval x))=ps.toArray:=by rw[<-this];apply fV;simp
   refine u _ (lP h ν w) (jp h).1 (jp h).2 ?_;rw[<-e];rfl
  ·split at h
   ·rename_i o N
    have e:(B.map λ(i,x)=>(i,a.eval x))= #[(0,a.eval o)]:=by apply fV;simp[N]
    have L:VR ν (bN T o) (a.eval o):=A o (by simp only[eI,zD];exact fX.2 ⟨(0,o),by rw[N];simp,rfl⟩);refine u _ (abM h L w) (Re h).1 (Re h).2 ?_;rw[<-e];rfl
   ·rename_i i o j o' N
    have e:(B.map λ(i,x)=>(i,a.eval x))= #[(i,a.eval o),(j,a.eval o')]:=by apply fV;simp[N]
    have L:VR ν (bN T o) (a.eval o):=A o (by simp only[eI,zD];exact fX.2 ⟨(i,o),by rw[N];simp,rfl⟩);have hy:VR ν (bN T o') (a.eval o'):=A o' (by simp only[eI,zD];exact fX.2 ⟨(j,o'),by rw[N];simp,rfl⟩);refine u _ (abN h L hy w) (Rf h).1 (Rf h).2 ?_;rw[<-e];rfl
   ·cases h
 |buildSlice t len B=>
  simp only[fj]at h;split at h
  ·rename_i ps hps
   have:=MU (ν:=ν) (σ:=a.eval) hps (λp hp=>A p.2 (by simp only[eI,zD];exact fX.2 ⟨p,hp,rfl⟩));have e:(B.map λ(i,x)=>(i,a.eval x))=ps.toArray:=by rw[<-this];apply fV;simp
   have G:ν base=ζ:=by
    have:δ.new.length=1:=by
     unfold EH at h
     repeat(first|split at h|(simp only[ar]at h;subst h;rfl)|cases h)
    simpa using hb 0 (by omega)
   refine C _ (abQ h N G) ?_;rw[<-e];rfl
  ·split at h
   ·rename_i x y hxy
    have e:(B.map λ(i,x)=>(i,a.eval x))= #[(0,a.eval x),(1,a.eval y)]:=by apply fV;simp[hxy]
    have L:VR ν (bN T x) (a.eval x):=A x (by simp only[eI,zD];exact fX.2 ⟨(0,x),by rw[hxy];simp,rfl⟩);have hy:VR ν (bN T y) (a.eval y):=A y (by simp only[eI,zD];exact fX.2 ⟨(1,y),by rw[hxy];simp,rfl⟩);have G:ν base=ζ:=by
     have:δ.new.length=1:=by
      unfold EG at h
      repeat(first|split at h|(simp only[ar]at h;subst h;rfl)|cases h)
     simpa using hb 0 (by omega)
    refine C _ (abO h L hy G) ?_;rw[<-e];rfl
   ·cases h
 |load t x=>simp only[fj]at h;exact u _ (U8 h N (A x (by simp[eI])) hr) (U7 h).1 (U7 h).2 rfl
 |store t x y=>simp only[fj]at h;obtain⟨w',U,h2⟩:=aoy (base:=base) h N (A x (by simp[eI])) (A y (by simp[eI])) hr;refine asW (w':=w') ?_ (hn _ w' ν h2);simp[dl,U]
 |nilCheck x=>
  simp only[fj]at h;split at h
  ·rename_i i wd j k L
   simp only[ar]at h;subst h;have D:=A x (by simp[eI]);rw[L]at D;have hv':=D;simp only[VR]at D;obtain⟨b,hb1,hb2⟩:=D;refine Dj (v:=a.eval x) (w':=w) ?_ (hn _ w ν (ef.same hv' rfl rfl));simp[dl,hb2]
  ·cases h
 |binOp op t x y yt=>simp only[fj]at h;exact u _ (abI h N (A x (by simp[eI])) (A y (by simp[eI])) w) (Q9 h).1 (Q9 h).2 rfl
 |unOp op t x=>
  simp only[fj]at h;split at h
  ·rename_i v D
   have:=iP D (A x (by simp[eI]));subst this;exact u _ (lP h ν w) (jp h).1 (jp h).2 rfl
  ·cases h
 |convert s d x=>
  simp only[fj]at h;split at h
  ·rename_i v D
   have:=iP D (A x (by simp[eI]));subst this;exact u _ (lP h ν w) (jp h).1 (jp h).2 rfl
  ·exact u _ (abT h N hr (A x (by simp[eI]))) (Rk h).1 (Rk h).2 rfl
 |makeInterface s x=>
  simp only[fj]at h;split at h
  ·rename_i v D
   have:=iP D (A x (by simp[eI]));subst this;exact u _ (lP h ν w) (jp h).1 (jp h).2 rfl
  ·cases h
 |makeFunc fn first cap=>
  cases fn with
  |func f'=>
   simp only[fj]at h;split at h
   ·rename_i h0
    simp only[ar]at h;subst h;have hf:first= #[]:=Array.size_eq_zero_iff.1 h0;subst hf;refine u (OV (.func f') (#[].map a.eval) (cap.map a.eval)) ⟨.func (.func f') #[] (cap.map a.eval),by simp[OV],?_⟩ rfl rfl rfl;simp only[VR];refine⟨cap.toList.map a.eval,?_,sv λx L=>A x (by simp[eI];simpa using L)⟩
    congr 1
    apply fV;simp
   ·cases h
  |_=>simp only[fj]at h;cases h
 |makeSlice t l c=>
  simp only[fj]at h;split at h
  ·rename_i k1 l' k2 c' hl hc
   have M:=A l (by simp[eI]);have e2:=A c (by simp[eI]);rw[hl]at M;rw[hc]at e2;simp only[VR]at M e2;have G:ν base=ζ:=by
    have:δ.new.length=1:=by
     unfold Gl at h
     repeat(first|split at h|(simp only[ar]at h;subst h;rfl)|cases h)
    simpa using hb 0 (by omega)
   refine C _ (aiD (kl:=k1) (kc:=k2) h N G) ?_;rw[<-M,<-e2];rfl
  ·cases h
 |slice t x lo hi mx=>
  simp only[fj]at h;have bnd:∀q:χ cS,(∀z,q=γ z->z∈ (Op.slice t x lo hi mx).operands)->uh ν (q.map (bN T)) (q.map a.eval):=by
   intro q hq;cases q with
   |none=>exact .none
   |some z=>exact .some (A z (hq z rfl))
  refine u _ (an_ (w:=w) h N (A x (by simp[eI])) (bnd lo ?_) (bnd hi ?_) (bnd mx ?_) hr) (XD h).1 (XD h).2 rfl
  all_goals (rintro z rfl;simp[eI])
 |fieldAddr s x f=>simp only[fj,dt]at h;obtain⟨r,U,rfl⟩:=h;exact u _ (ae_ U (A x (by simp[eI]))) rfl rfl rfl
 |field s x f=>simp only[fj,dt]at h;obtain⟨r,U,rfl⟩:=h;exact u _ (ae9 U (A x (by simp[eI]))) rfl rfl rfl
 |indexAddr t x ix=>simp only[fj]at h;exact u _ (agK h N (A x (by simp[eI])) (A ix (by simp[eI]))) (Uj h).1 (Uj h).2 rfl
 |index t x ix=>simp only[fj,dt]at h;obtain⟨⟨r,ob⟩,U,rfl⟩:=h;exact u _ (agJ U N (A x (by simp[eI])) (A ix (by simp[eI]))) rfl rfl rfl
 |extract x ix=>
  simp only[fj]at h;have L:=A x (by simp[eI]);split at h
  ·rename_i cs hcs
   simp only[dt]at h;obtain⟨r,U,rfl⟩:=h;rw[hcs]at L;simp only[VR]at L;obtain⟨l,h2,h3⟩:=L;obtain⟨y,hy,hr'⟩:=h3.get U;refine u (OT (a.eval x) ix) ⟨y,?_,hr'⟩ rfl rfl rfl;simp[OT,h2,hy]
  ·rename_i arr hcs
   simp only[dt]at h;obtain⟨r,U,rfl⟩:=h;rw[hcs]at L;simp only[VR]at L;refine u (OT (a.eval x) ix) ⟨r,?_,by simp only[VR]⟩ rfl rfl rfl;have:arr[ix]?=γ r:=by simpa using U
   simp[OT,L,this]
  ·cases h
 |call c=>
  simp only[fj,Rm]at h;obtain⟨callee,args,X⟩:=c;have n:ax ν (args.toList.map (bN T)) (args.toList.map a.eval):=sv λx L=>A x (by simp[eI,Zu];right;simpa using L)
  cases callee with
  |value f=>
   simp only at h;have hf:=A f (by simp[eI,Zu]);split at h
   ·rename_i g caps hg
    obtain⟨l,h2,h3⟩:=KH hg hf;split at h
    ·rename_i S hS
     obtain⟨s1,s2⟩:=hΓ g S hS;have hc:=s2 _ _ _ _ _ _ _ h N (n.append h3) hr hlt hb hsep htab;unfold nJ;have he:(dl a.eval ⟨dst,.call ⟨.value f,args,X⟩,ty,pos,W,pJ⟩).run P w=.ok (.enter g (args.toList.map a.eval++l).toArray) w:=by
      have e:(args.map a.eval++l.toArray)=(args.toList.map a.eval++l).toArray:=by apply fV;simp
      rw[<-e];simp[dl,kt,h2,Dn,invoke,s1]
     rw[he];simp only[wq];refine hc.mono ?_;rintro e w' ⟨v,R,rfl,hd⟩;exact hn v w' R hd
    ·unfold R' at h
     split at h
     ·split at h
      ·split at h
       ·rename_i vs I
        split at h
        ·rename_i v D
         cases h;have hvals:=oR I (n.append h3);refine Dj (v:=v) (w':=w) ?_ (hn _ w ν (ef.same (by simp only[VR]) rfl rfl));have e:(args.map a.eval++l.toArray)=vs.toArray:=by rw[<-hvals];apply fV;simp
         have hrun:=nj D w;rw[<-e]at hrun;simp[dl,kt,h2,Dn,invoke,hrun]
        ·cases h
       ·cases h
      ·cases h
     ·cases h
   ·cases h
  |invoke r m=>
   simp only at h;have hrv:=A r (by simp[eI,Zu]);split at h
   ·rename_i t v hr1
    rw[hr1]at hrv;simp only[VR]at hrv;split at h
    ·rename_i f x hm
     split at h
     ·rename_i S hS
      obtain⟨s1,s2⟩:=hΓ f S hS;have L:ax ν (AV.v x::args.toList.map (bN T)) (x::args.toList.map a.eval):=by simp only[ax,VR];exact⟨trivial,n⟩
      have hc:=s2 _ _ _ _ _ _ _ h N L hr hlt hb hsep htab;unfold nJ;have he:(dl a.eval ⟨dst,.call ⟨.invoke r m,args,X⟩,ty,pos,W,pJ⟩).run P w=.ok (.enter f (x::args.toList.map a.eval).toArray) w:=by
       have hm':=nj hm w;have e:(#[a.eval r]++args.map a.eval).extract 1 (#[a.eval r]++args.map a.eval).size=args.map a.eval:=by apply fV;simp;exact oH (by simp)
       have e2: #[x]++args.map a.eval=(x::args.toList.map a.eval).toArray:=by apply fV;simp
       have e3:(invoke (.fn (.method m) #[]) (#[a.eval r]++args.map a.eval)).run P w=.ok (.enter f (x::args.toList.map a.eval).toArray) w:=by
        have e4:(#[a.eval r]++args.map a.eval)[0]?=γ (a.eval r):=by rw[Zl (by simp)];rfl
        have e5:invoke (.fn (.method m) #[]) (#[a.eval r]++args.map a.eval)=callMethod (a.eval r) m (args.map a.eval):=by unfold invoke;simp only[e4,e]
        rw[e5,hrv];unfold callMethod;simp[hm',e2,s1]
       simp[dl,kt,e3]
      rw[he];simp only[wq];refine hc.mono ?_;rintro e w' ⟨v,R,rfl,hd⟩;exact hn v w' R hd
     ·cases h
    ·cases h
   ·cases h
  |builtin b=>
   simp only at h;have hb1:∀(s:Sem τ),(dl a.eval ⟨dst,.call ⟨.builtin b,args,X⟩,ty,pos,W,pJ⟩=(do pure (.value (<-s)):Sem Next))->(dl a.eval ⟨dst,.call ⟨.builtin b,args,X⟩,ty,pos,W,pJ⟩=(do pure (.value (<-s)):Sem Next)):=λ_ h=>h
   cases b<;>simp only[Rh]at h<;>first|cases h|skip
   case append=>
    split at h
    ·rename_i s x t t' hA hts
     split at h
     ·rename_i htt
      subst htt;have M:args.map a.eval= #[(args.toList.map a.eval).getD 0 aX,(args.toList.map a.eval).getD 1 aX]:=by
       have:=n.length;rw[hA]at this;apply fV;simp only[Ho]
       match hL:args.toList.map a.eval,this with
       |[p,q],_=>rfl
      have e2:X= #[t,t]:=by apply fV;simpa using hts
      rw[hA]at n;have D:VR ν s ((args.toList.map a.eval).getD 0 aX)/\VR ν x ((args.toList.map a.eval).getD 1 aX):=by
       match hL:args.toList.map a.eval,n with
       |[p,q],hh=>simp only[ax]at hh;exact⟨hh.1,hh.2.1⟩
      split at h
      ·rename_i δ' hE
       simp only[ar]at h;subst h;refine u _ (abo (ty:=ty) hE D.1 D.2 w) (Q2 hE).1 (Q2 hE).2 ?_;subst e2;simp only[dl,kt,M];rfl
      ·have G:ν base=ζ:=by
        have:δ.new.length=1:=by
         unfold Ez at h
         repeat(first|split at h|(simp only[ar]at h;subst h;rfl)|cases h)
        simpa using hb 0 (by omega)
       refine C _ (abn (ty:=ty) h N D.1 D.2 G hr hlt) ?_;subst e2;simp only[dl,kt,M];rfl
     ·cases h
    ·cases h
   case copy=>
    split at h
    ·rename_i s x t t' hA hts
     have M:args.map a.eval= #[(args.toList.map a.eval).getD 0 aX,(args.toList.map a.eval).getD 1 aX]:=by
      have:=n.length;rw[hA]at this;apply fV;simp only[Ho]
      match hL:args.toList.map a.eval,this with
      |[p,q],_=>rfl
     have e2:X= #[t,t']:=by apply fV;simpa using hts
     rw[hA]at n;have D:VR ν s ((args.toList.map a.eval).getD 0 aX)/\VR ν x ((args.toList.map a.eval).getD 1 aX):=by
      match hL:args.toList.map a.eval,n with
      |[p,q],hh=>simp only[ax]at hh;exact⟨hh.1,hh.2.1⟩
     obtain⟨v,w',U,h2⟩:=adw (t':=t') (ty:=ty) (base:=base) h N D.1 D.2 hr (λhs hn L=>Wf hs hn L);refine C _ ⟨v,w',ν,U,h2⟩ ?_;subst e2;simp only[dl,kt,M];rfl
    ·cases h
   case clear=>
    split at h
    ·rename_i x t hA hts
     have M:args.map a.eval= #[(args.toList.map a.eval).getD 0 aX]:=by
      have:=n.length;rw[hA]at this;apply fV;simp only[Ho]
      match hL:args.toList.map a.eval,this with
      |[p],_=>rfl
     have e2:X= #[t]:=by apply fV;simpa using hts
     rw[hA]at n;have D:VR ν x ((args.toList.map a.eval).getD 0 aX):=by
      match hL:args.toList.map a.eval,n with
      |[p],hh=>simp only[ax]at hh;exact hh.1
     obtain⟨v,w',U,h2⟩:=ac6 (ty':=ty) (base:=base) h N D hr;refine C _ ⟨v,w',ν,U,h2⟩ ?_;subst e2;simp only[dl,kt,M];rfl
    ·cases h
   case len=>
    split at h
    ·rename_i x t hA hts
     have M:args.map a.eval= #[(args.toList.map a.eval).getD 0 aX]:=by
      have:=n.length;rw[hA]at this;apply fV;simp only[Ho]
      match hL:args.toList.map a.eval,this with
      |[p],_=>rfl
     have e2:X= #[t]:=by apply fV;simpa using hts
     rw[hA]at n;have D:VR ν x ((args.toList.map a.eval).getD 0 aX):=by
      match hL:args.toList.map a.eval,n with
      |[p],hh=>simp only[ax]at hh;exact hh.1
     refine u _ (aij (ty:=ty) h D) (UW h).1 (UW h).2 ?_;subst e2;simp only[dl,kt,M];rfl
    ·cases h
   case max=>
    split at h
    ·rename_i vs I
     have:=oR I n;refine u _ (lP h ν w) (jp h).1 (jp h).2 ?_;have M:args.map a.eval=vs.toArray:=by apply fV;simpa using this
     simp only[dl,kt,M];rfl
    ·cases h
   case min=>
    split at h
    ·rename_i vs I
     have:=oR I n;refine u _ (lP h ν w) (jp h).1 (jp h).2 ?_;have M:args.map a.eval=vs.toArray:=by apply fV;simpa using this
     simp only[dl,kt,M];rfl
    ·cases h
   case real=>
    split at h
    ·rename_i vs I
     have:=oR I n;refine u _ (lP h ν w) (jp h).1 (jp h).2 ?_;have M:args.map a.eval=vs.toArray:=by apply fV;simpa using this
     simp only[dl,kt,M];rfl
    ·cases h
   case imag=>
    split at h
    ·rename_i vs I
     have:=oR I n;refine u _ (lP h ν w) (jp h).1 (jp h).2 ?_;have M:args.map a.eval=vs.toArray:=by apply fV;simpa using this
     simp only[dl,kt,M];rfl
    ·cases h
   case complex=>
    split at h
    ·rename_i vs I
     have:=oR I n;refine u _ (lP h ν w) (jp h).1 (jp h).2 ?_;have M:args.map a.eval=vs.toArray:=by apply fV;simpa using this
     simp only[dl,kt,M];rfl
    ·cases h
 |_=>simp only[fj]at h;cases h
inductive Ex where
 |normal
 |exit (id:O)
 |ret
inductive ao where
 |err
 |out (e:Ex) (T:E AV) (H:E AB)
def ao.ok(Q:Ex->E AV->E AB->Prop):ao->Prop
 | .err=>jc
 | .out e T H=>Q e T H
def Ω:E κ->ao->ao
 |[],r=>r
 |b::a,r=>cond b (Ω a r) .err
def vf{Q:Ex->E AV->E AB->Prop}{bs:E κ}{r:ao}(h:(Ω bs r).ok Q):aJ bs=ε/\r.ok Q:=by
 induction bs with
 |nil=>exact⟨rfl,h⟩
 |cons b bs a=>
  cases b
  ·exact h.elim
  ·obtain⟨c,d⟩:=a h
   exact⟨by simpa[aJ]using c,d⟩
structure eW where
 d:χ Delta
 base:O
structure Item where
 o:a6
 e:eW
def qq:E AB->E (O×AB)->E AB
 |H,[]=>H
 |H,p::l=>(qq H l).set p.1 p.2
def iF(H:E AB)(δ:Delta):E AB:=qq H δ.put++δ.new
def lU(T:E AV)(dst:χ Tmp)(v:AV):E AV:=match dst with|none=>T|some d=>T.set d v
def k9(T:E AV)(dst:χ Tmp):κ:=match dst with|none=>ε|some d=>Δ d T.length
inductive GR where
 |fail
 |go
 |skip
 |ask (d:O) (b want:κ)
def o7(all:E a6)(T:E AV):χ (O×κ)->GR
 |none=>.go
 |some (j,a)=>match(all[j]?).bind (·.dst)with
  |none=>.fail
  |some d=>match T.getD d .dead with
   | .v (.bool b)=>.ask d b a
   | .v (.tuple _)=>.skip
   |_=>.fail
def So:τ->(τ->ao)->ao
 | .int k n,f=>f (.int k n)
 | .bool b,f=>f (.bool b)
 | .agg a,f=>f (.agg a)
 | .tuple a,f=>f (.tuple a)
 |x,f=>f x
def ae8(x:τ)(f:τ->ao):So x f=f x:=by cases x<;>rfl
mutual
def m3:AV->(AV->ao)->ao
 | .v x,f=>So x λx=>f (.v x)
 | .ptr i w j k,f=>f (.ptr i w j k)
 | .sl i w j k l c,f=>f (.sl i w j k l c)
 | .own i l,f=>f (.own i l)
 | .agg b,f=>pX b λb=>f (.agg b)
 | .Ψ b,f=>pX b λb=>f (.Ψ b)
 | .fn g b,f=>pX b λb=>f (.fn g b)
 | .err q,f=>f (.err q)
 | .dead,f=>f .dead
def pX:E AV->(E AV->ao)->ao
 |[],f=>f []
 |a::d,f=>m3 a λa=>pX d λd=>f (a::d)
end
mutual
theorem Fp:∀(a:AV)(f:AV->ao),m3 a f=f a
 | .v x,f=>by simp only[m3,ae8]
 | .ptr ..,f=>by simp only[m3]
 | .sl ..,f=>by simp only[m3]
 | .own ..,f=>by simp only[m3]
 | .agg b,f=>by simp only[m3];exact sQ b _
 | .Ψ b,f=>by simp only[m3];exact sQ b _
 | .fn g b,f=>by simp only[m3];exact sQ b _
 | .err _,f=>by simp only[m3]
 | .dead,f=>by simp only[m3]
theorem sQ:∀(c:E AV)(f:E AV->ao),pX c f=f c
 |[],f=>by simp only[pX]
 |a::c,f=>by simp only[pX];rw[Fp a,sQ c]
end
def uG{α:Type}:E α->(E α->ao)->ao
 |[],f=>f []
 |a::b,f=>uG b λb=>f (a::b)
def AT{α:Type}:∀(l:E α)(f:E α->ao),uG l f=f l
 |[],f=>by simp only[uG]
 |a::b,f=>by simp only[uG];rw[AT b]
def Fq:AB->(AB->ao)->ao
 | .cells a t,f=>pX a λa=>f (.cells a t)
 | .row rw n w g t,f=>f (.row rw n w g t)
 | .gone,f=>f .gone
def Sl(b:AB)(f:AB->ao):Fq b f=f b:=by cases b<;>simp only[Fq,sQ]
def AS:E (O×AB)->(E (O×AB)->ao)->ao
 |[],f=>f []
 |p::l,f=>Fq p.2 λb=>AS l λl=>f ((p.1,b)::l)
def Sn:∀(l:E (O×AB))(f:E (O×AB)->ao),AS l f=f l
 |[],f=>by simp only[AS]
 |p::l,f=>by simp only[AS,Sl];rw[Sn l]
def AR:E AB->(E AB->ao)->ao
 |[],f=>f []
 |b::l,f=>Fq b λb=>AR l λl=>f (b::l)
def Sm:∀(l:E AB)(f:E AB->ao),AR l f=f l
 |[],f=>by simp only[AR]
 |b::l,f=>by simp only[AR,Sl];rw[Sm l]
def Kx(H:E AB)(δ:Delta)(f:E AB->ao):ao:=
 AS δ.put λa=>AR δ.new λb=>match a,b with
  |[],[]=>f H
  |a,b=>uG (qq H a++b) f
def ae7(H:E AB)(δ:Delta)(f:E AB->ao):Kx H δ f=f (iF H δ):=by
 simp only[Kx,Sn,Sm,iF];split
 ·rename_i a b
  rw[a,b];simp[qq]
 ·rw[AT]
def Fs(T:E AV)(dst:χ Tmp)(v:AV)(H:E AB)(δ:Delta)(f:E AV->E AB->ao):ao:=
 m3 v λv=>uG (lU T dst v) λT=>Kx H δ λH=>f T H
def Kw(T:E AV)(dst:χ Tmp)(v:AV)(H:E AB)(δ:Delta)(f:E AV->E AB->ao):Fs T dst v H δ f=f (lU T dst v) (iF H δ):=by simp only[Fs,Fp,AT,ae7]
def C6(P:aF)(Γ:aE)(o:a6)(T:E AV)(H:E AB)(tr:E eW)(a:E AV->E AB->E eW->ao):ao:=
 match fj P Γ o T H H.length with
 |none=>.err
 |some b=>Ω b.ap (cond (k9 T o.dst&&b.put.all λp=>(H.getD p.1 .gone).wr) (Fs T o.dst b.val H b λc d=>a c d (⟨γ b,H.length⟩::tr)) .err)
def CI(o:a6)(T:E AV)(H:E AB)(tr:E eW)(a:E AV->E AB->E eW->ao):ao:=
 cond (k9 T o.dst) (a (lU T o.dst (.v aX)) H (⟨ζ,H.length⟩::tr)) .err
def j0(P:aF)(Γ:aE)(all:E a6):E a6->E AV->E AB->E eW->(E AV->E AB->E eW->ao)->ao
 |[],T,H,c,a=>a T H c
 |o::e,T,H,c,a=>
  match o7 all T o.guard with
  | .fail=>.err
  | .go=>C6 P Γ o T H c λT H c=>j0 P Γ all e T H c a
  | .skip=>CI o T H c λT H c=>j0 P Γ all e T H c a
  | .ask d b f=>
   cond b (cond f (C6 P Γ o (T.set d (.v (.bool ε))) H c λT H c=>j0 P Γ all e T H c a) (CI o (T.set d (.v (.bool ε))) H c λT H c=>j0 P Γ all e T H c a))
    (cond f (CI o (T.set d (.v (.bool η))) H c λT H c=>j0 P Γ all e T H c a) (C6 P Γ o (T.set d (.v (.bool η))) H c λT H c=>j0 P Γ all e T H c a))
def gi(all:E a6)(T:E AV)(g:χ (O×κ))(x:κ):Prop:=
 match o7 all T g with
 | .fail=>jc
 | .go=>x=ε
 | .skip=>x=η
 | .ask _ b a=>x=(b==a)
def uE(P:aF)(Γ:aE)(all:E a6)(o:a6)(T:E AV)(H:E AB)(e:eW):Prop:=
 e.base=H.length/\k9 T o.dst=ε/\match e.d with
 |some a=>gi all T o.guard ε/\fj P Γ o T H H.length=γ a/\aJ a.ap=ε/\∀p∈a.put,(H.getD p.1 .gone).wr=ε
 |none=>gi all T o.guard η
def rD(o:a6)(e:eW)(T:E AV):E AV:=lU T o.dst (match e.d with|some a=>a.val|none=>.v aX)
def rB(e:eW)(H:E AB):E AB:=match e.d with|some a=>iF H a|none=>H
def su(P:aF)(Γ:aE)(all:E a6):E a6->E eW->E AV->E AB->E AV->E AB->Prop
 |[],[],T,H,a,b=>a=T/\b=H
 |o::c,e::d,T,H,a,b=>uE P Γ all o T H e/\su P Γ all c d (rD o e T) (rB e H) a b
 |_,_,_,_,_,_=>jc
def G5{T:E AV}{d:O}{x:AV}(h:T.getD d .dead=x)(_:x≠ .dead):T.set d x=T:=by
 apply O5;intro k;rw[O_];by_cases b:d=k
 ·subst b
  by_cases a:d<T.length
  ·simp[a]
   simp[HG,a]at h;exact h.symm
  ·simp[a]
 ·simp[b]
def NZ{P:aF}{Γ:aE}{all:E a6}{o:a6}{T:E AV}{H:E AB}{tr:E eW}{a:E AV->E AB->E eW->ao}{Q:Ex->E AV->E AB->Prop}(h:(C6 P Γ o T H tr a).ok Q)(g:gi all T o.guard ε):∃e,uE P Γ all o T H e/\(a (rD o e T) (rB e H) (e::tr)).ok Q:=by
 unfold C6 at h;simp only[Kw]at h;split at h
 ·exact h.elim
 ·rename_i f d
  obtain⟨i,c⟩:=vf h;cases b:(k9 T o.dst&&f.put.all λp=>(H.getD p.1 .gone).wr)with
  |false=>rw[b]at c;exact c.elim
  |true=>rw[b]at c;rw[aM]at b;exact⟨⟨γ f,H.length⟩,⟨rfl,b.1,g,d,i,λp j=>bX.1 b.2 p j⟩,c⟩
def NI{P:aF}{Γ:aE}{all:E a6}{o:a6}{T:E AV}{H:E AB}{tr:E eW}{a:E AV->E AB->E eW->ao}{Q:Ex->E AV->E AB->Prop}(h:(CI o T H tr a).ok Q)(c:gi all T o.guard η):∃e,uE P Γ all o T H e/\(a (rD o e T) (rB e H) (e::tr)).ok Q:=by
 unfold CI at h;cases b:k9 T o.dst with
 |false=>rw[b]at h;exact h.elim
 |true=>rw[b]at h;exact⟨⟨ζ,H.length⟩,⟨rfl,b,c⟩,h⟩
def xj{P:aF}{Γ:aE}{all:E a6}{Q:Ex->E AV->E AB->Prop}:∀{ops:E a6}{T:E AV}{H:E AB}{tr:E eW}{a:E AV->E AB->E eW->ao},(j0 P Γ all ops T H tr a).ok Q->∃g T' H',su P Γ all ops g T H T' H'/\(a T' H' (g.reverse++tr)).ok Q
 |[],T,H,tr,a,h=>⟨[],T,H,⟨rfl,rfl⟩,h⟩
 |o::f,T,H,tr,a,h=>by
  have j:(∃e,uE P Γ all o T H e/\(j0 P Γ all f (rD o e T) (rB e H) (e::tr) a).ok Q)->∃g T' H',su P Γ all (o::f) g T H T' H'/\(a T' H' (g.reverse++tr)).ok Q:=by rintro⟨e,k,l⟩;obtain⟨g,T',H',m,n⟩:=xj l;exact⟨e::g,T',H',⟨k,m⟩,by simpa using n⟩
  apply j;unfold j0 at h;cases c:o7 all T o.guard with
  |fail=>rw[c]at h;exact h.elim
  |go=>rw[c]at h;exact NZ h (by simp[gi,c])
  |skip=>rw[c]at h;exact NI h (by simp[gi,c])
  |ask d b i=>
   rw[c]at h;have p:T.getD d .dead=.v (.bool b):=by
    unfold o7 at c;split at c
    ·cases c
    ·split at c
     ·cases c
     ·split at c
      ·rename_i q;cases c;exact q
      ·cases c
      ·cases c
   have r:T.set d (.v (.bool b))=T:=G5 p (by simp);cases b<;>cases i<;>simp only[aZ,a_,r]at h
   ·exact NZ h (by simp[gi,c])
   ·exact NI h (by simp[gi,c])
   ·exact NI h (by simp[gi,c])
   ·exact NZ h (by simp[gi,c])
def zi(x:Item):AV:=match x.e.d with|some a=>a.val|none=>.v aX
def gF(S:O->κ):O->E Item->(O->AV)->O->AV
 |_,[],T=>T
 |k,x::l,T=>gF S (k+1) l (if S k=ε then λt=>if x.o.dst=γ t then zi x else T t else T)
def qh(x:Item)(H:O->AB):O->AB:=match x.e.d with|some a=>jW x.e.base a H|none=>H
def eZ(S:O->κ):O->E Item->(O->AB)->O->AB
 |_,[],H=>H
 |k,x::l,H=>eZ S (k+1) l (if S k=ε then qh x H else H)
def rs(x:Item)(i:O):Prop:=match x.e.d with|some a=>x.e.base<=i/\i<x.e.base+a.new.length|none=>jc
def jQ(x:Item)(i:O):Prop:=match x.e.d with|some a=>(x.e.base<=i/\i<x.e.base+a.new.length)\/(eO i a.put).isSome=ε|none=>jc
def yg{x:Item}{H:O->AB}{i:O}(h:¬jQ x i):qh x H i=H i:=by
 unfold qh;unfold jQ at h;cases c:x.e.d with
 |none=>rfl
 |some d=>
  rw[c]at h;simp only[jW];have a:=ue.1 h;rw[bi a.1];cases e:eO i d.put with
  |none=>rfl
  |some b=>rw[e]at a;simp at a
def Vt{x:Item}{H H':O->AB}{i:O}(h:jQ x i):qh x H i=qh x H' i:=by
 unfold qh;unfold jQ at h;cases a:x.e.d with
 |none=>rw[a]at h;exact h.elim
 |some d=>
  rw[a]at h;simp only[jW];rcases h with h|h
  ·rw[aP h,aP h]
  ·obtain⟨b,c⟩:=r9.1 h
   rw[c];simp
def sS{S b:O->κ}{t:O}:∀{l:E Item}{k:O}{T T':O->AV},T t=T' t->(∀(j:O) x,l[j]?=γ x->x.o.dst=γ t->S (k+j)=b (k+j))->gF S k l T t=gF b k l T' t
 |[],_,_,_,h,_=>h
 |x::l,k,T,T',h,c=>by
  simp only[gF];refine sS ?_ λj y e a=>?_
  ·have d:=c 0 x rfl
   simp only[iu]at d;by_cases a:x.o.dst=γ t
   ·rw[d a]
    split
    ·simp[a]
    ·exact h
   ·split<;>split<;>simp[a,h]
  ·have:=c (j+1) y (by simpa using e) a
   rwa [show k+1+j=k+(j+1) by omega]
def xv{S b:O->κ}{i:O}:∀{l:E Item}{k:O}{H H':O->AB},H i=H' i->(∀(j:O) x,l[j]?=γ x->jQ x i->S (k+j)=b (k+j))->eZ S k l H i=eZ b k l H' i
 |[],_,_,_,h,_=>h
 |x::l,k,H,H',h,c=>by
  simp only[eZ];refine xv ?_ λj y e a=>?_
  ·have d:=c 0 x rfl
   simp only[iu]at d;by_cases a:jQ x i
   ·rw[d a]
    split
    ·exact Vt a
    ·exact h
   ·split<;>split<;>simp[yg a,h]
  ·have:=c (j+1) y (by simpa using e) a
   rwa [show k+1+j=k+(j+1) by omega]
def eL(S:O->κ)(i:O):O->κ:=λj=>S j||j==i
def SC{S:O->κ}{t:O}:∀{l:E Item}{k i:O}{x:Item}{T:O->AV},l[i]?=γ x->S (k+i)=η->(x.o.dst=γ t->∀(j:O) y,i<j->l[j]?=γ y->y.o.dst=γ t->S (k+j)=η)->gF (eL S (k+i)) k l T t=if x.o.dst=γ t then zi x else gF S k l T t
 |[],_,_,_,_,h,_,_=>by simp at h
 |y::l,k,0,x,T,h,f,g=>by
  simp only[kn,ar]at h;subst h;simp only[gF,iu]at f⊢;have e:eL S k k=ε:=by simp[eL]
  rw[aP e,bi (show ¬S k=ε by rw[f];simp)];by_cases b:y.o.dst=γ t
  ·rw[aP b]
   have:∀{l:E Item}{d:O}{T:O->AV},(∀(j:O) z,l[j]?=γ z->z.o.dst=γ t->eL S k (d+j)=η)->gF (eL S k) d l T t=T t:=by
    intro l;induction l with
    |nil=>intro d T _;rfl
    |cons z l n=>
     intro d T c;simp only[gF];rw[n λj q o m=>by have:=c (j+1) q (by simpa using o) m;rwa [show d+1+j=d+(j+1) by omega]];by_cases a:z.o.dst=γ t
     ·have:=c 0 z rfl a
      simp only[iu]at this;rw[this,bi (by simp)]
     ·split<;>simp[a]
   rw[this]
   ·simp[b]
   ·intro j z c a
    have:=g b (j+1) z (by omega) (by simpa using c) a;simp only[eL,ats];rw[show k+1+j=k+(j+1) by omega];exact⟨this,by simp⟩
  ·rw[bi b]
   refine sS (by simp[b]) λj z c a=>?_
   simp[eL];omega
 |y::l,k,i+1,x,T,h,f,g=>by
  simp only[gF];have e:eL S (k+(i+1)) k=S k:=by simp[eL]
  rw[e,show k+(i+1)=(k+1)+i by omega];exact SC (by simpa using h) (by rwa [show k+1+i=k+(i+1) by omega]) λb j z p c a=>by
   have:=g b (j+1) z (by omega) (by simpa using c) a
   rwa [show k+1+j=k+(j+1) by omega]
def Sz{S:O->κ}{b:O}:∀{l:E Item}{k i:O}{x:Item}{H:O->AB},l[i]?=γ x->S (k+i)=η->(jQ x b->∀(j:O) y,i<j->l[j]?=γ y->jQ y b->S (k+j)=η)->eZ (eL S (k+i)) k l H b=qh x (eZ S k l H) b
 |[],_,_,_,_,h,_,_=>by simp at h
 |y::l,k,0,x,H,h,g,m=>by
  simp only[kn,ar]at h;subst h;simp only[eZ,iu]at g⊢;have e:eL S k k=ε:=by simp[eL]
  rw[aP e,bi (show ¬S k=ε by rw[g];simp)];by_cases d:jQ y b
  ·have:∀{l:E Item}{f:O}{H:O->AB},(∀(j:O) z,l[j]?=γ z->jQ z b->eL S k (f+j)=η)->eZ (eL S k) f l H b=H b:=by
    intro l;induction l with
    |nil=>intro f H _;rfl
    |cons z l o=>
     intro f H c;simp only[eZ];rw[o λj q p n=>by have:=c (j+1) q (by simpa using p) n;rwa [show f+1+j=f+(j+1) by omega]];by_cases a:jQ z b
     ·have:=c 0 z rfl a
      simp only[iu]at this;rw[this,bi (by simp)]
     ·split<;>simp[yg a]
   rw[this]
   ·exact Vt d
   ·intro j z c a
    have:=m d (j+1) z (by omega) (by simpa using c) a;simp only[eL,ats];rw[show k+1+j=k+(j+1) by omega];exact⟨this,by simp⟩
  ·rw[yg d]
   refine xv (yg d) λj z c a=>?_
   simp[eL];omega
 |y::l,k,i+1,x,H,h,g,m=>by
  simp only[eZ];have e:eL S (k+(i+1)) k=S k:=by simp[eL]
  rw[e,show k+(i+1)=(k+1)+i by omega];exact Sz (by simpa using h) (by rwa [show k+1+i=k+(i+1) by omega]) λd j z r c a=>by
   have:=m d (j+1) z (by omega) (by simpa using c) a
   rwa [show k+1+j=k+(j+1) by omega]
def items(ops:E a6)(a:E eW):E Item:=aac Item.mk ops a
def XA{T:E AV}{dst:χ Tmp}{v:AV}(h:k9 T dst=ε)(t:O):(lU T dst v).getD t .dead=if dst=γ t then v else T.getD t .dead:=by
 cases dst with
 |none=>simp[lU]
 |some d=>
  have a:d<T.length:=by simpa[k9,bS]using h
  simp only[lU,cq,O_,ar];by_cases e:d=t
  ·subst e;simp[a]
  ·simp[e]
def NF(T:E AV)(dst:χ Tmp)(v:AV):(lU T dst v).length=T.length:=by cases dst<;>simp[lU]
def rK(H:E AB):∀l:E (O×AB),(qq H l).length=H.length
 |[]=>rfl
 |p::l=>by simp[qq,rK H l]
def WD(H:E AB)(i:O):∀l:E (O×AB),(∀p∈l,p.1<H.length)->(qq H l).getD i .gone=(eO i l).getD (H.getD i .gone)
 |[],_=>rfl
 |p::l,h=>by
  have a:p.1<(qq H l).length:=by rw[rK];exact h p je
  simp only[qq,eO,cq,O_];by_cases e:p.1=i
  ·rw[aP e,aP a,aP e];rfl
  ·rw[bi e,bi e]
   have:=WD H i l λq b=>h q (lB _ b)
   simpa[cq]using this
def asX{H:E AB}{i:O}(h:(H.getD i .gone).wr=ε):i<H.length:=by
 rcases nG i H.length with a|a
 ·exact a
 ·rw[cq,l0 a]at h
  cases h
def Ey{H:E AB}{δ:Delta}(d:∀p∈δ.put,(H.getD p.1 .gone).wr=ε)(i:O):(iF H δ).getD i .gone=jW H.length δ (λi=>H.getD i .gone) i:=by
 have a:∀p∈δ.put,p.1<H.length:=λp h=>asX (d p h)
 unfold iF jW;rw[cq];by_cases c:i<H.length
 ·rw[km (by rw[rK];exact c),bi (by omega),<-cq]
  exact WD H i _ a
 ·rw[pz (by rw[rK];omega),rK]
  by_cases e:i<H.length+δ.new.length
  ·rw[aP ⟨by omega,e⟩,cq]
  ·rw[bi (by omega),l0 (by omega)]
   have:eO i δ.put=ζ:=by
    cases f:eO i δ.put with
    |none=>rfl
    |some b=>have:=a _ (od f);simp at this;omega
   rw[this];simp[l0 (Nat.le_of_not_lt c)]
def KJ{S:O->κ}:∀{l:E Item}{k:O}{T:O->AV},gF S (k+1) l T=gF (λj=>S (j+1)) k l T
 |[],_,_=>rfl
 |x::l,k,T=>by simp only[gF];exact KJ
def KI{S:O->κ}:∀{l:E Item}{k:O}{H:O->AB},eZ S (k+1) l H=eZ (λj=>S (j+1)) k l H
 |[],_,_=>rfl
 |x::l,k,H=>by simp only[eZ];exact KI
def At(P:aF)(Γ:aE)(all:E a6)(n:O)(d:O->AV)(e:O->AB)(L:E Item)(i:O)(x:Item):Prop:=
 ∃a c,uE P Γ all x.o a c x.e/\a.length=n/\(∀t,a.getD t .dead=gF (λj=>ο (j<i)) 0 L d t)/\∀b,c.getD b .gone=eZ (λj=>ο (j<i)) 0 L e b
structure wR (P:aF) (Γ:aE) (all ops:E a6) (es:E eW) (T:E AV) (H:E AB) (T':E AV) (H':E AB):Prop where
 len:es.length<=ops.length
 Bu:T'.length=T.length
 xX:H.length<=H'.length
 at_:∀(i:O) x,(items ops es)[i]?=γ x->At P Γ all T.length (λt=>T.getD t .dead) (λb=>H.getD b .gone) (items ops es) i x
 uD:∀t,T'.getD t .dead=gF (λ_=>ε) 0 (items ops es) (λt=>T.getD t .dead) t
 AA:∀b,H'.getD b .gone=eZ (λ_=>ε) 0 (items ops es) (λb=>H.getD b .gone) b
 base:∀(i:O) x,(items ops es)[i]?=γ x->H.length<=x.e.base
 apart:∀(i j:O) x y,i<j->(items ops es)[i]?=γ x->(items ops es)[j]?=γ y->∀b,rs x b->b<y.e.base
 lt:∀(i:O) x,(items ops es)[i]?=γ x->∀b,rs x b->b<H'.length
def ai5{P:aF}{Γ:aE}{all:E a6}{o:a6}{T:E AV}{H:E AB}{e:eW}(h:uE P Γ all o T H e):(λt=>(rD o e T).getD t .dead)=λt=>if o.dst=γ t then zi ⟨o,e⟩else T.getD t .dead:=by
 funext t
 unfold rD;rw[XA h.2.1];cases a:e.d<;>simp[zi,a]
def ai3{P:aF}{Γ:aE}{all:E a6}{o:a6}{T:E AV}{H:E AB}{e:eW}(h:uE P Γ all o T H e):(λb=>(rB e H).getD b .gone)=qh ⟨o,e⟩ λb=>H.getD b .gone:=by
 funext b
 obtain⟨c,f,a⟩:=h;unfold rB qh;cases d:e.d with
 |none=>simp
 |some g=>rw[d]at a;simp only[c];exact Ey a.2.2.2 b
def ai4(e:eW)(H:E AB):(rB e H).length=H.length+(match e.d with|some δ=>δ.new.length|none=>0):=by unfold rB;cases e.d<;>simp[iF,rK]
def yR{P:aF}{Γ:aE}{all:E a6}:∀{ops:E a6}{a:E eW}{T:E AV}{H:E AB}{T':E AV}{H':E AB},su P Γ all ops a T H T' H'->a.length=ops.length
 |[],[],T,H,T',H',h=>rfl
 |o::b,e::a,T,H,T',H',h=>by simp[yR h.2]
 |[],_::_,T,H,T',H',h=>h.elim
 |_::_,[],T,H,T',H',h=>h.elim
def vy{P:aF}{Γ:aE}{all:E a6}:∀{ops:E a6}{f:E eW}{T:E AV}{H:E AB}{T':E AV}{H':E AB},su P Γ all ops f T H T' H'->wR P Γ all ops f T H T' H'
 |[],[],T,H,T',H',h=>by obtain⟨rfl,rfl⟩:=h;exact⟨aR _,rfl,aR _,by intro i x h;simp[items]at h,λ_=>rfl,λ_=>rfl,by intro i x h;simp[items]at h,by intro i j x y _ h;simp[items]at h,by intro i x h;simp[items]at h⟩
 |o::v,e::f,T,H,T',H',h=>by
  obtain⟨n,C⟩:=h;have r:=vy C;have D:e.base=H.length:=n.1;have w:=ai4 e H;have hit:items (o::v) (e::f)=⟨o,e⟩::items v f:=rfl;have z:=ai5 n;have A:=ai3 n;have g:=r.Bu;rw[show(rD o e T).length=T.length by unfold rD;rw[NF]]at g;have p:=r.xX;rw[w]at p;have d:∀b,rs ⟨o,e⟩ b->b<(rB e H).length:=by
   intro b c;unfold rs at c;rw[w];cases B:e.d with
   |none=>simp[B]at c
   |some S=>simp[B]at c⊢;omega
  refine⟨by simpa using r.len,g,by omega,?_,?_,?_,?_,?_,?_⟩
  ·intro i x a
   rw[hit]at a⊢;cases i with
   |zero=>
    simp only[kn,ar]at a;subst a;have q:∀(l:E Item)(k:O)(T:O->AV),gF (λj=>ο (j<0)) k l T=T:=by
     intro l;induction l with
     |nil=>intro k T;rfl
     |cons y l s=>intro k T;simp only[gF];rw[s];simp
    have m:∀(l:E Item)(k:O)(H:O->AB),eZ (λj=>ο (j<0)) k l H=H:=by
     intro l;induction l with
     |nil=>intro k T;rfl
     |cons y l s=>intro k T;simp only[eZ];rw[s];simp
    exact⟨T,H,n,rfl,λt=>by rw[q],λb=>by rw[m]⟩
   |succ i=>
    simp only[tU]at a;obtain⟨G,I,L,M,N,Q⟩:=r.at_ i x a;refine⟨G,I,L,?_,?_,?_⟩
    ·rw[M];unfold rD;rw[NF]
    ·intro t
     rw[N t,z];simp only[gF];rw[KJ];simp
    ·intro b
     rw[Q b,A];simp only[eZ];rw[KI];simp
  ·intro t
   rw[hit,r.uD t,z];simp only[gF];rw[KJ];simp
  ·intro b
   rw[hit,r.AA b,A];simp only[eZ];rw[KI];simp
  ·intro i x a
   rw[hit]at a;cases i with
   |zero=>simp only[kn,ar]at a;subst a;simp[D]
   |succ i=>have:=r.base i x (by simpa using a);omega
  ·intro i j x y R a u b c
   rw[hit]at a u;cases j with
   |zero=>omega
   |succ j=>
    cases i with
    |zero=>simp only[kn,ar]at a;subst a;have:=r.base j y (by simpa using u);have:=d b c;omega
    |succ i=>exact r.apart i j x y (by omega) (by simpa using a) (by simpa using u) b c
  ·intro i x a b c
   rw[hit]at a;cases i with
   |zero=>simp only[kn,ar]at a;subst a;have:=d b c;have:=r.xX;omega
   |succ i=>exact r.lt i x (by simpa using a) b c
 |[],_::_,_,_,_,_,h=>h.elim
 |_::_,[],_,_,_,_,h=>h.elim
structure qQ (M:O->Prop) (w0:υ) (ν0:Nu) (n n0:O) (T0:O->AV) (H0:O->AB) (L:E Item) (S:O->κ) (a:aV) (w:υ) (ν:Nu):Prop where
 tmps:∀t,VR ν (gF S 0 L T0 t) (a.tmps.getD t aX)
 heap:RH M ν (eZ S 0 L H0) w
 fr:Fr M w0 w
 b6:∀i b,ν i=γ b->i<n0\/∃j x,L[j]?=γ x/\S j=ε/\rs x i
 len:n<=a.tmps.size
 le:Le ν0 ν
def qr(x:Item)(b:O):Prop:=match x.e.d with|some a=>b∈a.rd\/∃p∈a.put,p.1=b|none=>jc
def zk{all:E a6}{o:a6}{T:E AV}{a:aV}{ν:Nu}{q:κ}(h:gi all T o.guard q)(m:∀t,t∈o.looksAt all.toArray->VR ν (T.getD t .dead) (a.tmps.getD t aX)):nK o (yielded all.toArray a.tmps)=q:=by
 unfold gi at h;cases f:o.guard with
 |none=>rw[f]at h;simp[o7]at h;simp[nK,f,h]
 |some n=>
  obtain⟨j,g⟩:=n;rw[f]at h;simp only[o7]at h;cases e:(all[j]?).bind (·.dst)with
  |none=>rw[e]at h;exact h.elim
  |some d=>
   have i:(all.toArray[j]?).bind (·.dst)=γ d:=by simpa using e
   have c:=m d (by simp only[Oper.looksAt,f,i];simp);simp only[nK,f,yielded,i,Option.bind_some];cases k:T.getD d .dead with
   |v x=>
    rw[k]at c;simp only[VR]at c;cases x with
    |bool b=>
     simp only[e,k]at h;have p:a.tmps[d]?=γ (.bool b):=by
      simp only[qE]at c;cases l:a.tmps[d]?with
      |none=>rw[l]at c;simp[aX]at c
      |some z=>rw[l]at c;simpa using c
     rw[p,h];cases b<;>cases g<;>rfl
    |tuple r=>
     simp only[e,k]at h;rw[h];cases l:a.tmps[d]?with
     |none=>simp
     |some z=>
      have:z=.tuple r:=by simpa[qE,l]using c
      rw[this];simp
    |_=>simp only[e,k]at h
   |_=>simp only[e,k]at h
def vt{a:aV}{dst:χ Tmp}{v:τ}(h:∀d,dst=γ d->d<a.tmps.size)(t:O):(a.put dst v).tmps.getD t aX=if dst=γ t then v else a.tmps.getD t aX:=by
 cases dst with
 |none=>simp[jb]
 |some d=>
  have b:=h d rfl;simp only[jb,ar,qE,OH];by_cases e:d=t
  ·subst e;simp[b]
  ·simp[e]
def ke(a:aV)(dst:χ Tmp)(v:τ):(a.put dst v).defers=a.defers:=by cases dst<;>rfl
def Cv(a:aV)(dst:χ Tmp)(v:τ):(a.put dst v).tmps.size=a.tmps.size:=by cases dst<;>simp[jb]
def ld{T:E AV}{a:aV}{ν:Nu}{z:cS}(h:∀t,z=.tmp t->VR ν (T.getD t .dead) (a.tmps.getD t aX)):VR ν (bN T z) (a.eval z):=by
 cases z with
 |tmp t=>exact h t rfl
 |const v=>simp[bN,VR,OE]
 |global g=>simp[bN,VR,OE]
 |func f=>simp only[bN,VR,OE];exact⟨[],rfl,by simp only[ax]⟩
def NY{P:aF}{Γ:aE}(hΓ:aK P Γ){all:E a6}{s:E eW}{M:O->Prop}{w0:υ}{ν0:Nu}(hM:∀k,w0.heap.size<=k->M k){T:E AV}{H:E AB}{T':E AV}{H':E AB}(r:wR P Γ all all s T H T' H'){S:O->κ}{a:aV}{w:υ}{ν:Nu}{i:O}{x:Item}{f:aV->υ->Prop}{Q:dj->aV->υ->Prop}(B:(items all s)[i]?=γ x)(g:qQ M w0 ν0 T.length H.length (λt=>T.getD t .dead) (λb=>H.getD b .gone) (items all s) S a w ν)(h0:S i=η)(hT:∀t,t∈x.o.looksAt all.toArray->gF S 0 (items all s) (λt=>T.getD t .dead) t=gF (λj=>ο (j<i)) 0 (items all s) (λt=>T.getD t .dead) t)(hH:∀b,qr x b->eZ S 0 (items all s) (λb=>H.getD b .gone) b=eZ (λj=>ο (j<i)) 0 (items all s) (λb=>H.getD b .gone) b)(hwT:∀t,x.o.dst=γ t->∀(j:O) y,i<j->(items all s)[j]?=γ y->y.o.dst=γ t->S j=η)(hwH:∀b,jQ x b->∀(j:O) y,i<j->(items all s)[j]?=γ y->jQ y b->S j=η)(hK:∀a' w' U,qQ M w0 ν0 T.length H.length (λt=>T.getD t .dead) (λb=>H.getD b .gone) (items all s) (eL S i) a' w' U->a'.defers=a.defers->f a' w'):lD P all.toArray Q i f a w:=by
 obtain⟨Ti,Hi,⟨e1,e2,X⟩,lT,gT,gH⟩:=r.at_ i x B;have hxo:all[i]?=γ x.o:=by
  simp only[items,DC]at B;split at B
  ·rename_i o e u G
   cases B;exact u
  ·cases B
 have vT:∀t,t∈x.o.looksAt all.toArray->VR ν (Ti.getD t .dead) (a.tmps.getD t aX):=λt ht=>by rw[gT t,<-hT t ht];exact g.tmps t
 have N:∀d,x.o.dst=γ d->d<a.tmps.size:=by
  intro d n;have u:d<Ti.length:=by simpa[k9,n,bS]using e2
  rw[lT]at u;exact eE u g.len
 have l:=λt=>SC (S:=S) (k:=0) (i:=i) (T:=λt=>T.getD t .dead) (t:=t) B (by simpa using h0) (λn j y hj hy W=>by have:=hwT t n j y hj hy W;simpa using this)
 have m:=λb=>Sz (S:=S) (k:=0) (i:=i) (H:=λb=>H.getD b .gone) (b:=b) B (by simpa using h0) (λn j y hj hy W=>by have:=hwH b n j y hj hy W;simpa using this)
 simp only[bF]at l m;unfold lD;simp only[tV,hxo];cases n:x.e.d with
 |none=>
  rw[n]at X;rw[zk X vT];simp only[r6,if_false];refine hK _ w ν ⟨?_,?_,g.fr,?_,by rw[Cv];exact g.len,g.le⟩ (ke _ _ _)
  ·intro t
   rw[l t,vt N];split
   ·simp[zi,n,VR]
   ·exact g.tmps t
  ·have:eZ (eL S i) 0 (items all s) (λb=>H.getD b .gone)=eZ S 0 (items all s) (λb=>H.getD b .gone):=by
    funext b
    rw[m b,yg];simp[jQ,n]
   rw[this];exact g.heap
  ·intro k b I
   rcases g.b6 k b I with h|⟨j,y,u,G,R⟩
   ·exact .inl h
   ·exact .inr ⟨j,y,u,by simp[eL,G],R⟩
 |some δ=>
  rw[n]at X;obtain⟨X,e4,e5,e6⟩:=X;rw[zk X vT];simp only[qN];refine .inl ?_;have rd:∀b,qr x b->Hi.getD b .gone=eZ S 0 (items all s) (λb=>H.getD b .gone) b:=λb hb=>by rw[gH b,hH b hb]
  have C:∀j,j<δ.new.length->ν (Hi.length+j)=ζ:=by
   intro j hj;cases L:ν (Hi.length+j)with
   |none=>rfl
   |some b=>
    have hnew:rs x (Hi.length+j):=by simp only[rs,n];omega
    rcases g.b6 _ b L with h|⟨q,y,u,G,R⟩
    ·have:=r.base i x B
     omega
    ·rcases tY q i with hq|hq|hq
     ·have:=r.apart q i y x hq u B _ R
      omega
     ·subst hq;rw[h0]at G;cases G
     ·have:=r.apart i q x y hq B u _ hnew
      unfold rs at R;split at R
      ·omega
      ·exact R.elim
  have D:∀p∈δ.put,(eZ S 0 (items all s) (λb=>H.getD b .gone) p.1).wr=ε:=by intro p hp;rw[<-rd p.1 (by simp only[qr,n];exact .inr ⟨p,hp,rfl⟩)];exact e6 p hp
  refine GA hΓ e4 e5 (λz hz=>ld λt ht=>vT t ?_) (λb hb=>?_) (λb k I=>g.heap.lt b k I) C (λi' c j' b b' hp hj hne hl u G=>g.heap.sep i' j' b b' hne (by rw[<-rd i' (by simp only[qr,n];exact .inr ⟨_,hp,rfl⟩)];exact e6 _ hp) (by rw[<-rd j' (by simp only[qr,n];exact .inl hj)];exact hl) u G) (g.heap.EI (λk I=>hM k (cD g.fr.size I)) D) λv w' U A=>?_
  ·subst ht
   simp only[Oper.looksAt,nD];left;rw[List.mem_filterMap];exact⟨_,by simpa using hz,rfl⟩
  ·rw[rd b (by simp only[qr,n];exact .inl hb)]
   exact g.heap.br b
  ·refine hK _ w' U ⟨?_,?_,A.fr g.heap D g.fr,?_,by rw[Cv];exact g.len,g.le.trans A.le⟩ (ke _ _ _)
   ·intro t
    rw[l t,vt N];split
    ·simp only[zi,n]
     exact A.val
    ·exact(g.tmps t).le A.le
   ·have:eZ (eL S i) 0 (items all s) (λb=>H.getD b .gone)=jW Hi.length δ (eZ S 0 (items all s) (λb=>H.getD b .gone)):=by
     funext b
     rw[m b];simp[qh,n,e1]
    rw[this];exact g.heap.step (λk I=>hM k (cD g.fr.size I)) A D C
   ·intro k b I
    cases L:ν k with
    |some b'=>
     rcases g.b6 k b' L with h|⟨j,y,u,G,R⟩
     ·exact .inl h
     ·exact .inr ⟨j,y,u,by simp[eL,G],R⟩
    |none=>have:=A.b6 k L (by rw[I];simp);exact .inr ⟨i,x,B,by simp[eL],by simp only[rs,n,e1];exact this⟩
structure SR (M:O->Prop) (w0:υ) (ν0:Nu) (T:E AV) (H:E AB) (a:aV) (w:υ) (ν:Nu):Prop where
 tmps:∀t,VR ν (T.getD t .dead) (a.tmps.getD t aX)
 heap:RH M ν (λb=>H.getD b .gone) w
 fr:Fr M w0 w
 b6:∀i b,ν i=γ b->i<H.length
 len:T.length<=a.tmps.size
 le:Le ν0 ν
def NX{M:O->Prop}{e:υ}{c:Nu}{T:E AV}{H:E AB}{a:aV}{w:υ}{ν:Nu}{L:E Item}(h:SR M e c T H a w ν)(S:O->κ)(f:∀j,S j=η):qQ M e c T.length H.length (λt=>T.getD t .dead) (λb=>H.getD b .gone) L S a w ν:=by
 have g:∀(l:E Item)(k:O)(T:O->AV),gF S k l T=T:=by
  intro l;induction l with
  |nil=>intro k T;rfl
  |cons y l d=>intro k T;simp only[gF];rw[d];simp[f]
 have m:∀(l:E Item)(k:O)(H:O->AB),eZ S k l H=H:=by
  intro l;induction l with
  |nil=>intro k T;rfl
  |cons y l d=>intro k T;simp only[eZ];rw[d];simp[f]
 exact⟨λt=>by rw[g];exact h.tmps t,by rw[m];exact h.heap,h.fr,λi b n=>.inl (h.b6 i b n),h.len,h.le⟩
def G_{P:aF}{Γ:aE}{all:E a6}{c:E eW}{M:O->Prop}{g:υ}{e:Nu}{T:E AV}{H:E AB}{T':E AV}{H':E AB}(r:wR P Γ all all c T H T' H'){S:O->κ}{a:aV}{w:υ}{ν:Nu}(d:qQ M g e T.length H.length (λt=>T.getD t .dead) (λb=>H.getD b .gone) (items all c) S a w ν)(k:∀j,j<c.length->S j=ε):SR M g e T' H' a w ν:=by
 have l:∀(j:O) x,(items all c)[j]?=γ x->j<c.length:=by intro j x f;have:=(eV.1 f).1;simp[items]at this;omega
 refine⟨λt=>?_,?_,d.fr,λi b m=>?_,by rw[r.Bu];exact d.len,d.le⟩
 ·rw[r.uD t,<-sS (S:=S) (T:=λt=>T.getD t .dead) rfl λj x f _=>by simpa using k j (l j x f)]
  exact d.tmps t
 ·have:(λb=>H'.getD b .gone)=eZ S 0 (items all c) λb=>H.getD b .gone:=by
   funext b
   rw[r.AA b];exact(xv rfl λj x f _=>by simpa using k j (l j x f)).symm
  rw[this];exact d.heap
 ·rcases d.b6 i b m with h|⟨j,x,n,_,o⟩
  ·exact eE h r.xX
  ·exact r.lt j x n i o
def vY(e:eW):E O:=match e.d with|some a=>a.put.map (·.1)++tW e.base a.new.length|none=>[]
def GQ(e:eW):E O:=match e.d with|some a=>a.rd++a.put.map (·.1)|none=>[]
def kQ(ops:aU a6)(x y:Item):κ:=
 Oper.apart ops x.o y.o&& !((vY x.e).any λb=>(GQ y.e).contains b||(vY y.e).contains b)&& !((GQ x.e).any λb=>(vY y.e).contains b)
def EW(ops:aU a6)(y:Item)(a:O):O->E Item->κ
 |_,[]=>ε
 |i,x::l=>(a.testBit i||kQ ops x y)&&EW ops y a (i+1) l
def ji:E a6->E O->E O
 |[],a=>a
 |o::r,a=>ji r (a++[o.after.toList.foldl (λs e=>cond (l6 .any e) (s|||2^e.on|||a.getD e.on 0) s) 0])
def EX:O->E a6->κ
 |_,[]=>ε
 |i,o::r=>(o.after.toList.all λe=> !l6 .any e||Δ e.on i)&&EX (i+1) r
def Cw(ops:aU a6):E Item->E Item->E O->κ
 |_,[],_=>ε
 |done,y::r,m::a=>EW ops y m 0 done&&Cw ops (done++[y]) r a
 |_,_::_,[]=>η
def uR{a:aU κ}{i:O}(h:i<a.size)(x y:κ):a.getD i x=a.getD i y:=by simp[qD,h]
structure D3 (ops:E a6) (S:O->κ):Prop where
 cl:∀(j:O) o,ops[j]?=γ o->S j=ε->∀e∈o.after,l6 .any e=ε->S e.on=ε
def aiF{f:E O}{S:O->κ}{l:E Edge}{s0 i:O}(g:∀e∈l,l6 .any e=ε->S e.on=ε/\∀q,(f.getD e.on 0).testBit q=ε->S q=ε)(b:∀q,s0.testBit q=ε->S q=ε)(h:(l.foldl (λs e=>cond (l6 .any e) (s|||2^e.on|||f.getD e.on 0) s) s0).testBit i=ε):S i=ε:=by
 induction l generalizing s0 with
 |nil=>exact b i h
 |cons e l j=>
  simp only[zA]at h;refine j (s0:=cond (l6 .any e) (s0|||2^e.on|||f.getD e.on 0) s0) (λk c=>g k (lB _ c)) ?_ h;intro q a;cases d:l6 .any e with
  |false=>rw[d]at a;exact b q a
  |true=>
   rw[d]at a;simp only[aZ,Nat.testBit_or,oA,Nat.testBit_two_pow,aB]at a;obtain⟨m,n⟩:=g e je d;rcases a with(a|a)|a
   ·exact b q a
   ·rw[<-a];exact m
   ·exact n q a
def qT{ops:E a6}{S:O->κ}(y:D3 ops S):∀{r:E a6}{acc:E O},ops.drop acc.length=r->(∀(j:O) o,j<acc.length->ops[j]?=γ o->(∀e∈o.after,l6 .any e=ε->S e.on=ε)->∀q,(acc.getD j 0).testBit q=ε->S q=ε)->∀(j:O) o,ops[j]?=γ o->(∀e∈o.after,l6 .any e=ε->S e.on=ε)->∀q,((ji r acc).getD j 0).testBit q=ε->S q=ε
 |[],acc,i,h,j,o,k,m,q,l=>by
  have n:j<acc.length:=by
   have:ops.length<=acc.length:=by simpa using i
   have:=(eV.1 k).1;omega
  exact h j o n k m q l
 |z::r,acc,i,h,j,o,k,m,q,l=>by
  simp only[ji]at l;refine qT y ?_ ?_ j o k m q l
  ·simp only[cv,List.length_singleton]
   rw[<-zx,i];rfl
  ·intro p C s b d D a
   by_cases f:p<acc.length
   ·rw[cq,km f,<-cq]at a
    exact h p C f b d D a
   ·have n:p=acc.length:=by simp at s;omega
    subst n;have:ops[acc.length]?=γ z:=by have:=congrArg (·[0]?) i;simpa using this
    rw[b]at this;cases this;rw[cq,pz (aR _)]at a;simp only[HP,kn,g9]at a;refine aiF (S:=S) (λe t G=>?_) (by simp) a;have g:e∈z.after:=by simpa using t
    have A:=d e g G;refine⟨A,λH c=>?_⟩;by_cases u:e.on<acc.length
    ·have v:e.on<ops.length:=by have:=(eV.1 b).1;omega
     have B:ops[e.on]?=γ ops[e.on]:=cV v;exact h e.on _ u B (λI w x=>y.cl e.on _ B A I w x) H c
    ·rw[cq,l0 (by omega)]at c
     simp at c
def R0{ops:aU a6}{y:Item}{m:O}:∀{l:E Item}{k:O},EW ops y m k l=ε->∀(i:O) x,l[i]?=γ x->m.testBit (k+i)=ε\/kQ ops x y=ε
 |[],_,_,i,x,a=>by simp at a
 |z::l,k,h,i,x,a=>by
  simp only[EW,aM,oA]at h;cases i with
  |zero=>simp at a;subst a;exact h.1
  |succ i=>
   have:=R0 h.2 i x (by simpa using a)
   rwa [show k+1+i=k+(i+1) by omega]at this
def GP{ops:aU a6}:∀{r done:E Item}{b:E O},Cw ops done r b=ε->∀(j:O) y,r[j]?=γ y->∀(i:O) x,i<done.length+j->(done++r)[i]?=γ x->(b.getD j 0).testBit i=ε\/kQ ops x y=ε
 |[],_,_,_,j,y,a,_,_,_,_=>by simp at a
 |z::r,done,[],h,_,_,_,_,_,_,_=>by simp[Cw]at h
 |z::r,done,m::b,h,j,y,a,i,x,d,c=>by
  simp only[Cw,aM]at h;cases j with
  |zero=>simp at a;subst a;have:=R0 h.1 i x (by rwa [km (by simpa using d)]at c);simpa using this
  |succ j=>have:=GP h.2 j y (by simpa using a) i x (by simp;omega) (by simpa using c);simpa using this
def qS{ops:aU a6}{x y:Item}(h:kQ ops x y=ε):(∀d,x.o.dst=γ d->d∉y.o.looksAt ops/\y.o.dst≠γ d)/\(∀d,y.o.dst=γ d->d∉x.o.looksAt ops):=by simp only[kQ,aM]at h;obtain⟨b,c,e⟩:=Oper.apart_spec h.1.1;exact⟨λd a=>⟨b d a,c d a⟩,e⟩
def Hk{x:Item}{b:O}(h:jQ x b):b∈vY x.e:=by
 unfold jQ at h;unfold vY;cases a:x.e.d with
 |none=>rw[a]at h;exact h.elim
 |some e=>
  rw[a]at h;simp only[nD,fX,List.mem_range'];rcases h with h|h
  ·right;exact⟨b-x.e.base,by omega,by omega⟩
  ·left
   obtain⟨c,d⟩:=r9.1 h;exact⟨_,od d,rfl⟩
def WK{x:Item}{b:O}(h:qr x b):b∈GQ x.e:=by
 unfold qr at h;unfold GQ;cases a:x.e.d with
 |none=>rw[a]at h;exact h.elim
 |some d=>
  rw[a]at h;simp only[nD,fX];rcases h with h|⟨p,c,rfl⟩
  ·exact .inl h
  ·exact .inr ⟨p,c,rfl⟩
def qR{ops:aU a6}{x y:Item}(h:kQ ops x y=ε):(∀b,jQ x b->¬qr y b/\¬jQ y b)/\(∀b,jQ y b->¬qr x b):=by
 simp only[kQ,aM,it]at h;obtain⟨⟨_,d⟩,e⟩:=h;refine⟨λb a=>?_,λb a c=>?_⟩
 ·have:=List.any_eq_false.1 d b (Hk a)
  simp only[oA,ue]at this;exact⟨λc=>this.1 (by simpa using WK c),λf=>this.2 (by simpa using Hk f)⟩
 ·have:=List.any_eq_false.1 e b (WK c)
  exact this (by simpa using Hk a)
def EY:∀{ops:E a6}{k:O},EX k ops=ε->∀(i:O) o,ops[i]?=γ o->∀e∈o.after,l6 .any e=ε->e.on<k+i
 |[],_,_,i,o,a=>by simp at a
 |z::l,k,h,i,o,a=>by
  simp only[EX,aM]at h;cases i with
  |zero=>simp at a;subst a;intro e b c;have:=bX.1 h.1 e (by simpa using b);rw[c]at this;simpa[bS]using this
  |succ i=>have:=EY h.2 i o (by simpa using a);intro e b c;have:=this e b c;omega
def jx(ops:E a6)(a:E eW):κ:=EX 0 ops&&Cw ops.toArray [] (items ops a) (ji ops [])
def Q0{P:aF}{Γ:aE}(hΓ:aK P Γ){all:E a6}{z:E eW}{M:O->Prop}{w0:υ}{L:Nu}(hM:∀k,w0.heap.size<=k->M k){T:E AV}{H:E AB}{T':E AV}{H':E AB}(r:su P Γ all all z T H T' H')(hB:jx all z=ε){a:aV}{w:υ}{ν:Nu}{Q:dj->aV->υ->Prop}(h:SR M w0 L T H a w ν)(hQ:∀A w' n,SR M w0 L T' H' A w' n->A.defers=a.defers->Q .normal A w'):wpAny P .any all.toArray Q all.length (r4 all.length η) a w:=by
 have ra:=vy r;have rl:=yR r;have hlen:(items all z).length=all.length:=by simp[items,rl]
 simp only[jx,aM]at hB;obtain⟨hB1,hB2⟩:=hB;have N:∀(i:O) o,all[i]?=γ o->∀e∈o.after,l6 .any e=ε->e.on<i:=λi o R e he B=>by simpa using EY hB1 i o R e he B
 have C:∀(i j:O) x y,i<j->(items all z)[i]?=γ x->(items all z)[j]?=γ y->((ji all []).getD j 0).testBit i=ε\/kQ all.toArray x y=ε:=λi j x y hij hx m=>GP hB2 j y m i x (by simpa using hij) (by simpa using hx)
 have key:∀(f:O)(c:aU κ)(A:aV)(w':υ)(n:Nu),c.size=all.length->c.toList.count η=f->D3 all (λj=>c.getD j η)->
   qQ M w0 L T.length H.length (λt=>T.getD t .dead) (λb=>H.getD b .gone) (items all z) (λj=>c.getD j η) A w' n->A.defers=a.defers->wpAny P .any all.toArray Q f c A w':=by
  intro f;induction f with
  |zero=>
   intro c A w' n hs D hc st hd;have s:∀j,j<all.length->c.getD j η=ε:=by
    intro j d;have hjs:j<c.size:=by omega
    have hne:η∉c.toList:=Dz.1 D;have:c[j]≠η:=λe=>hne (by rw[<-e];simp)
    simp[qD,hjs];simpa using this
   refine⟨?_,hQ A w' n (G_ ra st λj d=>s j (by omega)) hd⟩;rw[List.eq_nil_iff_forall_not_mem];intro j d;obtain⟨h1,o,R,_⟩:=ud.1 d;have G:j<all.length:=by simpa using(cm.1 R).1
   have:=s j G;rw[uR (by omega) η ε,h1]at this;cases this
  |succ f ih=>
   intro c A w' n hs D hc st hd;refine⟨λhnil=>?_,λi hi=>?_⟩
   ·have s:∀j,j<all.length->c.getD j η=ε:=by
     intro j;induction j using DL with
     |_ j jh=>
      intro d;cases hl:c.getD j η with
      |true=>rfl
      |false=>
       have:j∈l7 .any all.toArray c:=by rw[ud];refine⟨by rw[uR (by omega) ε η];exact hl,all[j],by simp[d],λe he B=>?_⟩;have hlt:=N j all[j] (by simp[d]) e he B;exact jh e.on hlt (by omega)
       rw[hnil]at this;cases this
    exact hQ A w' n (G_ ra st λj d=>s j (by omega)) hd
   ·obtain⟨h1,o,R,he⟩:=ud.1 hi
    have hil:i<all.length:=by simpa using(cm.1 R).1
    have U:all[i]?=γ o:=by simpa using R
    have v:c.getD i η=η:=by rw[uR (by omega) η ε];exact h1
    have l:(items all z)[i]?=γ (items all z)[i]:=cV (by omega);generalize hxg:(items all z)[i]=x at l;have hxo:x.o=o:=by
     simp only[items,DC]at l;split at l
     ·rename_i o' e' h1' h2'
      cases l;rw[U]at h1';cases h1';rfl
     ·cases l
    --W of i are c;those of a c one are c
    have anc:∀q,((ji all []).getD i 0).testBit q=ε->c.getD q η=ε:=qT (S:=λj=>c.getD j η) (r:=all) (acc:=[]) hc rfl (λj o d=>by simp at d) i o U he;have anc':∀j,c.getD j η=ε->j<all.length->∀q,((ji all []).getD j 0).testBit q=ε->c.getD q η=ε:=by intro j d G;have hjx:all[j]?=γ all[j]:=cV G;exact qT (S:=λj=>c.getD j η) (r:=all) (acc:=[]) hc rfl (λj o d=>by simp at d) j _ hjx (hc.cl j _ hjx d)
    have u:∀(j:O) y,j<i->(items all z)[j]?=γ y->kQ all.toArray y x=ε\/c.getD j η=ε:=by
     intro j y d m;rcases C j i y x d m l with h|h
     ·exact .inr (anc j h)
     ·exact .inl h
    have g:∀(j:O) y,i<j->(items all z)[j]?=γ y->kQ all.toArray x y=ε\/c.getD j η=η:=by
     intro j y d m;rcases C i j x y d l m with h|h
     ·right
      cases hl:c.getD j η with
      |false=>rfl
      |true=>
       have G:j<all.length:=by have:=(eV.1 m).1;omega
       have:=anc' j hl G i h;rw[v]at this;cases this
     ·exact .inl h
    refine NY hΓ hM ra l st v (λt ht=>?_) (λb B=>?_) (λt ht j y d m p=>?_) (λb B j y d m hwy=>?_) λa'' w'' ν'' st' hd'=>?_
    ·refine sS rfl λj y m p=>?_
     simp only[bF];rcases tY j i with d|d|d
     ·rw[bA d]
      exact(u j y d m).resolve_left λX=>((qS X).1 t p).1 ht
     ·subst d
      rw[v];simp
     ·rw[eJ (by omega)]
      exact(g j y d m).resolve_left λX=>(qS X).2 t p ht
    ·refine xv rfl λj y m p=>?_
     simp only[bF];rcases tY j i with d|d|d
     ·rw[bA d]
      exact(u j y d m).resolve_left λX=>((qR X).1 b p).1 B
     ·subst d
      rw[v];simp
     ·rw[eJ (by omega)]
      exact(g j y d m).resolve_left λX=>(qR X).2 b p B
    ·rcases g j y d m with h|h
     ·exact aO p ((qS h).1 t ht).2
     ·exact h
    ·rcases g j y d m with h|h
     ·exact aO hwy ((qR h).1 b B).2
     ·exact h
    ·have I:(λj=>(c.setIfInBounds i ε).getD j η)=eL (λj=>c.getD j η) i:=by
      funext j
      simp only[eL];by_cases e:i=j
      ·subst e
       simp[qD,show i<c.size by omega]
      ·rw[wA η e]
       have:(j==i)=η:=by simp;exact λh=>e h.symm
       rw[this,Zp]
     refine ih (c.setIfInBounds i ε) a'' w'' ν'' (by simpa using hs) ?_ ⟨λj o' ho' d e he' B=>?_⟩ (by rw[I];exact st') (hd'.trans hd)
     ·have hi':i<c.toList.length:=by simp;omega
      have hval:c.toList[i]=η:=by
       have:i<c.size:=by omega
       simp[qD,this]at v;simpa using v
      simp only[Hp];rw[ZY hi'];simp[hval,D]
     ·have hset':∀j,(c.setIfInBounds i ε).getD j η=eL (λj=>c.getD j η) i j:=congrFun I
      rw[hset']at d⊢;simp only[eL,oA,ks]at d⊢;rcases d with d|rfl
      ·exact .inl (hc.cl j o' ho' d e he' B)
      ·rw[U]at ho'
       cases ho';exact .inl (he e he' B)
 have rep:∀j,(r4 all.length η).getD j η=η:=by intro j;rw[qE,OG];split<;>rfl
 refine key all.length _ a w ν (by simp) (by simp) ⟨λj o R d=>?_⟩ (NX h _ λj=>rep j) rfl;rw[rep j]at d;cases d
abbrev dx:=Ex->E AV->E AB->ao
abbrev Sum:=E AV->E AB->dx->ao
def sN(id:O)(a:dx):dx:=λe T H=>match e with
 | .exit j=>cond (ai j id) (a .normal T H) (a (.exit j) T H)
 |e=>a e T H
def C'(f:E AV->E AB->ao)(a:dx):dx:=λe T H=>match e with
 | .normal=>f T H
 |e=>a e T H
def iter(f:E AV->E AB->dx->ao):O->E AV->E AB->dx->ao
 |0,_,_,_=>.err
 |m+1,T,H,a=>f T H (C' (λT H=>iter f m T H a) a)
def NE(T:E AV)(c:cS)(b:κ):E AV:=match c with| .tmp t=>T.set t (.v (.bool b))|_=>T
def rN(P:aF)(T:E AV)(H:E AB):E Pq->χ (E AV×E κ)
 |[]=>γ ([],[])
 | .tmp t::r=>match rN P T H r with
  |some (a,b)=>γ (T.getD t .dead::a,b)
  |none=>ζ
 | .cell x t::r=>match u5 P H t (T.getD x .dead),rN P T H r with
  |some c,γ (a,b)=>γ (c.val::a,c.ap++b)
  |_,_=>ζ
def ng:E AV->AV
 |[x]=>x
 |l=>.Ψ l
def mg(P:aF)(fn:cA)(a:AV->E AB->ao):dx:=λe T H=>match e with
 | .exit _=>.err
 |_=>match rN P T H fn.results.toList with
  |some (b,c)=>Ω c (a (ng b) H)
  |none=>.err
abbrev Cf:=bq->E AV->E AB->(AV->E AB->ao)->ao
def Lu(o:a6)(T:E AV):χ (bq×E AV):=
 match o.op with
 | .call c=>match c.callee with
  | .value f=>match Fx (bN T f)with
   |some (g,a)=>γ (g,c.args.toList.map (bN T)++a)
   |_=>ζ
  |_=>ζ
 |_=>ζ
def vP(P:aF)(Γ:aE)(cf:Cf)(o:a6)(T:E AV)(H:E AB)(a:E AV->E AB->ao):ao:=
 match fj P Γ o T H H.length with
 |some b=>Ω b.ap (cond (k9 T o.dst&&b.put.all λp=>(H.getD p.1 .gone).wr) (Fs T o.dst b.val H b a) .err)
 |none=>match Lu o T with
  |some (g,c)=>cf g c H λv d=>cond (k9 T o.dst) (m3 v λv=>uG (lU T o.dst v) λT=>a T d) .err
  |none=>.err
def vD(o:a6)(T:E AV)(H:E AB)(a:E AV->E AB->ao):ao:=
 cond (k9 T o.dst) (a (lU T o.dst (.v aX)) H) .err
def fv(P:aF)(Γ:aE)(cf:Cf)(all:E a6):E a6->E AV->E AB->(E AV->E AB->ao)->ao
 |[],T,H,a=>a T H
 |o::c,T,H,a=>
  match o7 all T o.guard with
  | .fail=>.err
  | .go=>vP P Γ cf o T H λT H=>fv P Γ cf all c T H a
  | .skip=>vD o T H λT H=>fv P Γ cf all c T H a
  | .ask d b e=>
   cond b (cond e (vP P Γ cf o (T.set d (.v (.bool ε))) H λT H=>fv P Γ cf all c T H a) (vD o (T.set d (.v (.bool ε))) H λT H=>fv P Γ cf all c T H a))
    (cond e (vD o (T.set d (.v (.bool η))) H λT H=>fv P Γ cf all c T H a) (vP P Γ cf o (T.set d (.v (.bool η))) H λT H=>fv P Γ cf all c T H a))
def a0(P:aF)(Γ:aE):O->(O->χ Sum)->a9->E AV->E AB->dx->ao
 |0,_,_,_,_,_=>.err
 |n+1,e,c,T,H,d=>
  match c with
  | .skip=>d .normal T H
  | .label _=>d .normal T H
  | .region _ ops f=>
   cond f (j0 P Γ ops.toList ops.toList T H [] λi j k=>cond (jx ops.toList k.reverse) (d .normal i j) .err)
    (fv P Γ (λg h H l=>match P.funcs[g]?with
      |some fn=>(match fn.body with
       |some c=>pX (h++ez (fn.ntmps-h.length) (.v aX)) λT=>a0 P Γ n (λ_=>ζ) c T H (mg P fn l)
       |none=>.err)
      |none=>.err) ops.toList ops.toList T H λi j=>d .normal i j)
  | .seq a b=>a0 P Γ n e a T H (C' (λT H=>a0 P Γ n e b T H d) d)
  | .cond c x y=>(match bN T c with
   | .v (.bool q)=>cond q (a0 P Γ n e x (NE T c ε) H d) (a0 P Γ n e y (NE T c η) H d)
   |_=>.err)
  | .block id b=>(match e id with
   |some S=>S T H d
   |none=>a0 P Γ n e b T H (sN id d))
  | .loop b=>iter (a0 P Γ n e b) n T H d
  | .scope b=>a0 P Γ n e b T H d
  | .exit id=>d (.exit id) T H
  | .ret=>d .ret T H
  |_=>.err
def Ex.to:Ex->dj
 | .normal=>.normal
 | .exit id=>.exit id
 | .ret=>.ret
def post(M:O->Prop)(f:υ)(c:Nu)(b:dx)(Q:Ex->E AV->E AB->Prop):dj->aV->υ->Prop:=
 λe a w=>∃d T H g,e=Ex.to d/\(b d T H).ok Q/\SR M f c T H a w g/\a.defers=[]
def cp(P:aF)(m0:O)(c:a9)(S:Sum):Prop:=
 ∀(M:O->Prop)(f:υ)(e:Nu),(∀k,f.heap.size<=k->M k)->(∀i b,e i=γ b->i<m0)->∀(T:E AV)(H:E AB)(d:dx)(Q:Ex->E AV->E AB->Prop)(a:aV)(w:υ)(g:Nu),(S T H d).ok Q->SR M f e T H a w g->a.defers=[]->c.wp P (post M f e d Q) a w
def nU(id:O):a9->E a9
 | .seq a b=>nU id a++nU id b
 | .cond _ x y=>nU id x++nU id y
 | .block j b=>cond (ai j id) [.block j b] []++nU id b
 | .loop b=>nU id b
 | .scope b=>nU id b
 |_=>[]
def eK(P:aF)(m0:O)(Λ:O->χ Sum)(c:a9):Prop:=∀id S,Λ id=γ S->∀b∈nU id c,cp P m0 b S
def al2{M:O->Prop}{l:υ}{d:Nu}{b:dx}{Q:Ex->E AV->E AB->Prop}{id:O}{e:dj}{a:aV}{w:υ}(h:post M l d (sN id b) Q e a w):oB id (post M l d b Q) e a w:=by
 obtain⟨m,T,H,f,rfl,c,g,i⟩:=h;cases m with
 |normal=>exact⟨.normal,T,H,f,rfl,c,g,i⟩
 |ret=>exact⟨.ret,T,H,f,rfl,c,g,i⟩
 |exit j=>
  simp only[Ex.to,oB];simp only[sN]at c;by_cases k:j=id
  ·subst k
   simp only[l5,aZ]at c;simp only[qN];exact⟨.normal,T,H,f,rfl,c,g,i⟩
  ·have:ai j id=η:=by
    cases n:ai j id with
    |true=>exact aO (ci n) k
    |false=>rfl
   rw[this]at c;rw[bi k];exact⟨.exit j,T,H,f,rfl,c,g,i⟩
def al3{M:O->Prop}{f:υ}{c:Nu}{b:dx}{Q:Ex->E AV->E AB->Prop}{e:dj}{a:aV}{w:υ}(h:post M f c b Q e a w):Zz (post M f c b Q) e a w:=by
 have d:=h;obtain⟨g,T,H,i,rfl,k,l,m⟩:=h;cases g with
 |normal=>exact d
 |ret=>exact d
 |exit j=>exact d
def Wy{M:O->Prop}{d:υ}{c:Nu}{b:dx}{Q:Ex->E AV->E AB->Prop}{f:E AV->E AB->ao}{next:aV->υ->Prop}{e:dj}{a:aV}{w:υ}(h:post M d c (C' f b) Q e a w)(l:∀T H ν,(f T H).ok Q->SR M d c T H a w ν->a.defers=[]->next a w):dj.then next (post M d c b Q) e a w:=by
 obtain⟨m,T,H,ν,rfl,g,i,k⟩:=h;cases m with
 |normal=>exact l T H ν g i k
 |ret=>exact⟨.ret,T,H,ν,rfl,g,i,k⟩
 |exit j=>exact⟨.exit j,T,H,ν,rfl,g,i,k⟩
def G4{T:E AV}{c:cS}{q:κ}(h:bN T c=.v (.bool q)):NE T c q=T:=by
 cases c with
 |tmp t=>exact G5 h (by simp)
 |_=>rfl
def Enters(P:aF):Prop:=∀g fn,P.funcs[g]?=γ fn->fn.body.isSome=ε->∀args w,(g_ g args).run P w=.ok (.enter g args) w
def Qv(P:aF)(M:O->Prop)(Q:Ex->E AV->E AB->Prop)(cf:Cf):Prop:=
 ∀g d H j (c:E τ) w f,(cf g d H j).ok Q->ax f d c->RH M f (λb=>H.getD b .gone) w->(∀i b,f i=γ b->i<H.length)->(∀k,w.heap.size<=k->M k)->
  (∀args w,(g_ g args).run P w=.ok (.enter g args) w)/\
  aH P g c.toArray w λe l=>∃v m h a,e=.returned v/\(j m h).ok Q/\VR a m v/\RH M a (λb=>h.getD b .gone) l/\Fr M w l/\Le f a/\∀i b,a i=γ b->i<h.length
def kZ{Q:Ex->E AV->E AB->Prop}{b:κ}{x y:ao}(h:(cond b x y).ok Q):(b=ε/\x.ok Q)\/(b=η/\y.ok Q):=by
 cases b
 ·exact .inr ⟨rfl,h⟩
 ·exact .inl ⟨rfl,h⟩
def SR.put{M:O->Prop}{k:υ}{f:Nu}{T:E AV}{H H':E AB}{a:aV}{w w':υ}{ν c:Nu}{dst:χ Tmp}{x:AV}{v:τ}(h:SR M k f T H a w ν)(l:k9 T dst=ε)(m:Le ν c)(n:VR c x v)(o:RH M c (λb=>H'.getD b .gone) w')(p:Fr M k w')(g:∀i b,c i=γ b->i<H'.length):SR M k f (lU T dst x) H' (a.put dst v) w' c:=by
 have j:∀d,dst=γ d->d<a.tmps.size:=by
  intro d e;have:d<T.length:=by simpa[k9,e,bS]using l
  exact eE this h.len
 refine⟨λt=>?_,o,p,g,by rw[Cv,NF];exact h.len,h.le.trans m⟩;rw[XA l,vt j];split
 ·exact n
 ·exact(h.tmps t).le m
def CG{P:aF}{Γ:aE}(I:aK P Γ){cf:Cf}{M:O->Prop}{w0:υ}{ν0:Nu}(hM:∀k,w0.heap.size<=k->M k){Q:Ex->E AV->E AB->Prop}(L:Qv P M Q cf){all:E a6}{Qw:dj->aV->υ->Prop}{m:E AV->E AB->ao}:∀(ops:E a6)(k:O)(T:E AV)(H:E AB)(a:aV)(w:υ)(ν:Nu),all.drop k=ops->(fv P Γ cf all ops T H m).ok Q->SR M w0 ν0 T H a w ν->(∀T' H' N w' r,(m T' H').ok Q->SR M w0 ν0 T' H' N w' r->N.defers=a.defers->Qw .normal N w')->sj P all.toArray Qw (tW k ops.length) a w
 |[],k,T,H,a,w,ν,_,h,s,hQ=>by simp only[gm,List.range'_zero,sj];exact hQ T H a w ν h s rfl
 |o::q,k,T,H,a,w,ν,hd,h,s,hQ=>by
  have y:all[k]?=γ o:=by have:=congrArg (·[0]?) hd;simpa using this
  have S:all.drop (k+1)=q:=by rw[<-zx,hd];rfl
  have vT:∀t,VR ν (T.getD t .dead) (a.tmps.getD t aX):=s.tmps;rw[cn,List.range'_succ,wpOps_cons];have skip:gi all T o.guard η->(vD o T H λT H=>fv P Γ cf all q T H m).ok Q->lD P all.toArray Qw k (sj P all.toArray Qw (tW (k+1) q.length)) a w:=by
   intro hw h;unfold lD;simp only[tV,y];rw[zk hw λt _=>vT t];simp only[r6,if_false];unfold vD at h;rcases kZ h with⟨U,A⟩|⟨_,A⟩
   ·refine CG I hM L q (k+1) _ H _ w ν S A (s.put U (Le.refl _) (by simp only[VR]) s.heap s.fr s.b6) λT' H' N w' r y B C=>hQ T' H' N w' r y B (by rw[C,ke])
   ·exact A.elim
  have jU:gi all T o.guard ε->(vP P Γ cf o T H λT H=>fv P Γ cf all q T H m).ok Q->lD P all.toArray Qw k (sj P all.toArray Qw (tW (k+1) q.length)) a w:=by
   intro hw h;unfold lD;simp only[tV,y];rw[zk hw λt _=>vT t];simp only[qN];refine .inl ?_;unfold vP at h;simp only[Kw,Fp,AT]at h;split at h
   ·rename_i W hδ
    obtain⟨ho,h⟩:=vf h;rcases kZ h with⟨U,A⟩|⟨_,A⟩
    ·rw[aM]at U
     have u:∀p∈W.put,(H.getD p.1 .gone).wr=ε:=λp hp=>bX.1 U.2 p hp
     have D:∀j,j<W.new.length->ν (H.length+j)=ζ:=by
      intro j _;cases R:ν (H.length+j)with
      |none=>rfl
      |some b=>have:=s.b6 _ b R;omega
     refine GA I hδ ho (λz _=>ld λt _=>vT t) (λb _=>s.heap.br b) s.heap.lt D (λi' c j' b b' hp _ hne hl U A=>s.heap.sep i' j' b b' hne (u _ hp) hl U A) (s.heap.EI (λk y=>hM k (cD s.fr.size y)) u) λv w' r G=>?_
     have hRH:=s.heap.step (λk y=>hM k (cD s.fr.size y)) G u D;have e:(λb=>(iF H W).getD b .gone)=jW H.length W λb=>H.getD b .gone:=by
      funext b
      exact Ey u b
     have hdom:∀i b,r i=γ b->i<(iF H W).length:=by
      intro i b hb;have hl:(iF H W).length=H.length+W.new.length:=by simp[iF,rK]
      rw[hl];cases R:ν i with
      |some b'=>have:=s.b6 i b' R;omega
      |none=>have:=G.b6 i R (by rw[hb];simp);omega
     refine CG I hM L q (k+1) _ _ _ w' r S A (s.put U.1 G.le G.val (by rw[e];exact hRH) (G.fr s.heap u s.fr) hdom) λT' H' N w' r y B C=>hQ T' H' N w' r y B (by rw[C,ke])
    ·exact A.elim
   ·split at h
    ·rename_i g avs n
     obtain⟨dst,op,ty,pos,X,pJ⟩:=o;unfold Lu at n;split at n
     ·rename_i c hop
      simp only at hop;subst hop;split at n
      ·rename_i f hcal
       split at n
       ·rename_i g' caps hf
        simp only[ar,cG]at n;obtain⟨rfl,rfl⟩:=n;have hfv:=ld (T:=T) (a:=a) (ν:=ν) (z:=f) λt _=>vT t
        obtain⟨l,A,h3⟩:=KH hf hfv;have hargs:ax ν (c.args.toList.map (bN T)) (c.args.toList.map a.eval):=sv λx _=>ld λt _=>vT t
        obtain⟨c1,c2⟩:=L _ _ _ _ _ w ν h (hargs.append h3) s.heap s.b6 (λk y=>hM k (cD s.fr.size y));have he:(dl a.eval ⟨dst,.call c,ty,pos,X,pJ⟩).run P w=.ok (.enter g' (c.args.toList.map a.eval++l).toArray) w:=by
         have e:(c.args.map a.eval++l.toArray)=(c.args.toList.map a.eval++l).toArray:=by apply fV;simp
         rw[<-e];simp[dl,kt,hcal,A,Dn,invoke,c1]
        unfold nJ;rw[he];simp only[wq];refine c2.mono ?_;rintro e w' ⟨v,av,H',r,rfl,k1,k2,k3,k4,k5,k6⟩;rcases kZ k1 with⟨d1,d2⟩|⟨_,d2⟩
        ·exact CG I hM L q (k+1) _ _ _ w' r S d2 (s.put d1 k5 k2 k3 (s.fr.trans k4) k6) λT' H' N w' r y B C=>hQ T' H' N w' r y B (by rw[C,ke])
        ·exact d2.elim
       ·cases n
      ·cases n
     ·cases n
    ·exact h.elim
  unfold fv at h;cases n:o7 all T o.guard with
  |fail=>rw[n]at h;exact h.elim
  |go=>rw[n]at h;exact jU (by simp[gi,n]) h
  |skip=>rw[n]at h;exact skip (by simp[gi,n]) h
  |ask d b want=>
   rw[n]at h;have hdb:T.getD d .dead=.v (.bool b):=by
    unfold o7 at n;split at n
    ·cases n
    ·split at n
     ·cases n
     ·split at n
      ·rename_i hh;cases n;exact hh
      ·cases n
      ·cases n
   have hs:T.set d (.v (.bool b))=T:=G5 hdb (by simp);cases b<;>cases want<;>simp only[aZ,a_,hs]at h
   ·exact jU (by simp[gi,n]) h
   ·exact skip (by simp[gi,n]) h
   ·exact skip (by simp[gi,n]) h
   ·exact jU (by simp[gi,n]) h
def aev{P:aF}{Γ:aE}(j:aK P Γ)(e:P.follows .mixedOrders=ε){M:O->Prop}{f:υ}{d:Nu}(hM:∀k,f.heap.size<=k->M k){id:O}{ops:aU a6}{T:E AV}{H:E AB}{b:dx}{Q:Ex->E AV->E AB->Prop}{a:aV}{w:υ}{ν:Nu}(h:(j0 P Γ ops.toList ops.toList T H [] λT' H' tr=>cond (jx ops.toList tr.reverse) (b .normal T' H') .err).ok Q)(c:SR M f d T H a w ν)(p:a.defers=[]):(Ht id ops ε).wp P (post M f d b Q) a w:=by
 obtain⟨q,T',H',r,g⟩:=xj h;rcases kZ g with⟨s,g⟩|⟨_,g⟩
 ·have t:jx ops.toList q=ε:=by simpa using s
  refine Qt e ?_;have l:SR M f d T H a {w with drawn:=w.drawn+1} ν:=⟨c.tmps,⟨λi=>(c.heap.br i).of_block λ_ _ _=>rfl,c.heap.sep,c.heap.own,c.heap.lt,c.heap.eC⟩,c.fr.drew,c.b6,c.len,c.le⟩;have:=Q0 (Q:=post M f d b Q) j hM r t l λv x n u o=>⟨.normal,T',H',n,rfl,g,u,o.trans p⟩
  simpa using this
 ·exact g.elim
def ahU{P:aF}{m0:O}{Λ:O->χ Sum}{x y:a9}(h:eK P m0 Λ (.seq x y)):eK P m0 Λ x/\eK P m0 Λ y:=
 ⟨λid S a b c=>h id S a b (atP _ c),λid S a b c=>h id S a b (Z7 _ c)⟩
def ahR{P:aF}{m0:O}{Λ:O->χ Sum}{c:cS}{x y:a9}(h:eK P m0 Λ (.cond c x y)):eK P m0 Λ x/\eK P m0 Λ y:=
 ⟨λid S a b d=>h id S a b (atP _ d),λid S a b d=>h id S a b (Z7 _ d)⟩
def ahQ{P:aF}{m0:O}{Λ:O->χ Sum}{j:O}{x:a9}(h:eK P m0 Λ (.block j x)):eK P m0 Λ x/\∀S,Λ j=γ S->cp P m0 (.block j x) S:=
 ⟨λid S a b c=>h id S a b (Z7 _ c),λS a=>h j S a _ (by simp[nU])⟩
def ahT{P:aF}{m0:O}{Λ:O->χ Sum}{x:a9}(h:eK P m0 Λ (.scope x)):eK P m0 Λ x:=λid S a b c=>h id S a b c
def ahS{P:aF}{m0:O}{Λ:O->χ Sum}{x:a9}(h:eK P m0 Λ (.loop x)):eK P m0 Λ x:=λid S a b c=>h id S a b c
def CA(tmps:aU τ):Pq->Sem τ
 | .tmp t=>pure (tmps.getD t aX)
 | .cell a t=>do uc t (<-asAddr (tmps.getD a aX))
def amo(fn:cA)(tmps:aU τ):results fn tmps=(do
  let vs<-fn.results.mapM (CA tmps)
  pure (if h:vs.size=1 then vs[0]else .tuple vs)):=by
 have:(λr:Pq=>match r with
  | .tmp t=>(pure (tmps.getD t aX):Sem τ)
  | .cell a t=>do uc t (<-asAddr (tmps.getD a aX)))=CA tmps:=by
  funext r
  cases r<;>rfl
 rw[<-this];rfl
def Nc{P:aF}{T:E AV}{H:E AB}{ν:Nu}{w:υ}{tmps:aU τ}(d:∀t,VR ν (T.getD t .dead) (tmps.getD t aX))(n:∀i,BR ν i (H.getD i .gone) w):∀{l:E Pq}{vs:E AV}{ob:E κ},rN P T H l=γ (vs,ob)->aJ ob=ε->∃c:E τ,(l.mapM (CA tmps)).run P w=.ok c w/\ax ν vs c
 |[],vs,ob,h,_=>by simp only[rN,ar,cG]at h;obtain⟨rfl,rfl⟩:=h;exact⟨[],by simp,by simp only[ax]⟩
 | .tmp t::l,vs,ob,h,o=>by
  simp only[rN]at h;split at h
  ·rename_i p f q
   simp only[ar,cG]at h;obtain⟨rfl,rfl⟩:=h;obtain⟨c,r,s⟩:=Nc d n q o;refine⟨tmps.getD t aX::c,?_,?_⟩
   ·rw[List.mapM_cons]
    simp[CA,r]
   ·simp only[ax]
    exact⟨d t,s⟩
  ·cases h
 | .cell x t::l,vs,ob,h,o=>by
  simp only[rN]at h;split at h
  ·rename_i A p f m q
   simp only[ar,cG]at h;obtain⟨rfl,rfl⟩:=h;have g:aJ A.ap=ε/\aJ f=ε:=by simpa[aJ,gC]using o
   obtain⟨c,r,s⟩:=Nc d n q g.2;obtain⟨v,y,B⟩:=U8 m g.1 (d x) λi _=>n i
   refine⟨v::c,?_,?_⟩
   ·have C:∃a,tmps.getD x aX=.pointer (γ a):=by
     unfold u5 at m;split at m
     ·rename_i i G j k D
      have:=d x;rw[D]at this;simp only[VR]at this;obtain⟨b,_,e⟩:=this;exact⟨_,e⟩
     ·cases m
    obtain⟨a,z⟩:=C;rw[z]at y;have u:(uc t a).run P w=.ok v w:=by simpa[Dq,zr]using y
    rw[List.mapM_cons];simp[CA,z,asAddr,u,r]
   ·simp only[ax]
    exact⟨B,s⟩
  ·cases h
def Nd{P:aF}{fn:cA}{T:E AV}{H:E AB}{ν:Nu}{w:υ}{tmps:aU τ}(c:∀t,VR ν (T.getD t .dead) (tmps.getD t aX))(d:∀i,BR ν i (H.getD i .gone) w){vs:E AV}{ob:E κ}(h:rN P T H fn.results.toList=γ (vs,ob))(f:aJ ob=ε):∃v,(results fn tmps).run P w=.ok v w/\VR ν (ng vs) v:=by
 obtain⟨b,g,a⟩:=Nc c d h f;have e:(results fn tmps).run P w=.ok (if h:b.toArray.size=1 then b.toArray[0]else .tuple b.toArray) w:=by rw[amo,Array.mapM_eq_mapM_toList];simp only[fO,Sem.run_map];rw[g];simp
 refine⟨_,e,?_⟩
 match vs,b,a with
 |[x],[y],a=>simp only[ax]at a;simpa[ng]using a.1
 |[],[],a=>simp only[ng,VR];exact⟨[],by simp,a⟩
 |x::j::l,y::k::m,a=>simp only[ng,VR];exact⟨_,by simp,a⟩
 |[_],[],a=>simp only[ax]at a
 |[],_::_,a=>simp only[ax]at a
 |[_],_::_::_,a=>simp only[ax]at a;exact a.2.elim
 |_::_::_,[],a=>simp only[ax]at a
 |_::_::_,[_],a=>simp only[ax]at a;exact a.2.elim
def qw{M:O->Prop}{avs:E AV}{vals:E τ}{H:E AB}{w:υ}{ν:Nu}{fn:cA}(f:ax ν avs vals)(g:RH M ν (λb=>H.getD b .gone) w)(d:∀i b,ν i=γ b->i<H.length):SR M w ν (avs++ez (fn.ntmps-avs.length) (.v aX)) H {tmps:=vals.toArray++r4 (fn.ntmps-vals.toArray.size) aX,defers:=[]} w ν:=by
 have a:=f.length;refine⟨λt=>?_,g,Fr.refl _ _,d,?_,Le.refl _⟩
 ·simp only[cq,qE]
  by_cases e:t<avs.length
  ·obtain⟨y,h,j⟩:=f.get (cV e)
   rw[km e,cV e];rw[Zl (by simpa using a▸e)];simp only[tV,h];exact j
  ·rw[pz (by omega)]
   by_cases c:t-avs.length<fn.ntmps-avs.length
   ·rw[atN,aP c]
    simp only[g9,VR];rw[Array.getElem?_append_right (by simp;omega),OG];simp[a▸c]
   ·rw[atN,bi c]
    simp only[Option.getD_none,VR]
 ·simp;omega
def KB{P:aF}{M:O->Prop}{w:υ}{ν:Nu}{fn:cA}{j:AV->E AB->ao}{Q:Ex->E AV->E AB->Prop}{e:dj}{k:aV}{w':υ}(o:post M w ν (mg P fn j) Q e k w'):bodyPost P fn (λe w'=>∃v f H' a,e=.returned v/\(j f H').ok Q/\VR a f v/\RH M a (λb=>H'.getD b .gone) w'/\Fr M w w'/\Le ν a/\∀i b,a i=γ b->i<H'.length) e k w':=by
 obtain⟨p,q,H',a,rfl,d,c,r⟩:=o;have g:(match rN P q H' fn.results.toList with|some (l,m)=>Ω m (j (ng l) H')|none=>.err:ao).ok Q->k.defers=[]/\∃v,(results fn k.tmps).run P w'=.ok v w'/\∃n f H' a,Ending.returned v=.returned n/\(j f H').ok Q/\VR a f n/\RH M a (λb=>H'.getD b .gone) w'/\Fr M w w'/\Le ν a/\∀i b,a i=γ b->i<H'.length:=by
  intro d;split at d
  ·rename_i l m h
   obtain⟨s,t⟩:=vf d;obtain⟨v,u,x⟩:=Nd c.tmps c.heap.br h s;exact⟨r,v,u,v,ng l,H',a,rfl,t,x,c.heap,c.fr,c.le,c.b6⟩
  ·exact d.elim
 cases p with
 |normal=>exact g d
 |ret=>exact g d
 |exit id=>exact d.elim
def sM{P:aF}{Γ:aE}(W:aK P Γ)(X:P.follows .mixedOrders=ε)(hent:Enters P):∀(n m0:O)(Λ:O->χ Sum)(c:a9),eK P m0 Λ c->∀(M:O->Prop)(o:υ)(f:Nu),(∀k,o.heap.size<=k->M k)->(∀i b,f i=γ b->i<m0)->∀(T:E AV)(H:E AB)(d:dx)(Q:Ex->E AV->E AB->Prop)(a:aV)(w:υ)(ν:Nu),(a0 P Γ n Λ c T H d).ok Q->SR M o f T H a w ν->a.defers=[]->c.wp P (post M o f d Q) a w:=by
 intro n;induction n with
 |zero=>intro m0 Λ c _ M o f hM j T H d Q a w ν h;exact h.elim
 |succ n D=>
  intro m0 Λ c hL M o f hM j T H d Q a w ν h s u;have r:∀e,(d e T H).ok Q->post M o f d Q (Ex.to e) a w:=λe N=>⟨e,T,H,ν,rfl,N,s,u⟩
  cases c with
  |skip=>exact wp_skip (r .normal h)
  |label l=>exact wp_label (r .normal h)
  |region id ops draw=>
   cases draw with
   |true=>exact aev W X hM h s u
   |false=>
    refine wp_region ?_;simp only[a0,a_]at h;have:=CG (Qw:=post M o f d Q) (all:=ops.toList) W hM (Q:=Q) (λg avs G Kc vals B p U hv hH I hM'=>?_) ops.toList 0 T H a w ν rfl h s λT' G R B p N v A=>⟨.normal,T',G,p,rfl,N,v,A.trans u⟩
    ·rw[<-aaa]at this
     simpa using this
    ·split at U
     ·rename_i fn hf
      split at U
      ·rename_i c' L
       rw[sQ]at U;refine⟨λargs w=>hent g fn hf (by rw[L];rfl) args w,?_⟩;refine D0 hf L (oN (D G.length (λ_=>ζ) c' (λ_ _ h=>by cases h) M B p hM' I _ G (mg P fn Kc) Q _ B p U (qw hv hH I) rfl) λe R w'' C=>?_);exact KB C
      ·exact U.elim
     ·exact U.elim
  |seq x y=>obtain⟨hx,hy⟩:=ahU hL;refine wp_seq (oN (D m0 Λ x hx M o f hM j T H _ Q a w ν h s u) λe R B C=>Wy C λT' G p N v A=>D m0 Λ y hy M o f hM j T' G d Q R B p N v A)
  |cond c x y=>
   obtain⟨hx,hy⟩:=ahR hL;simp only[a0]at h;split at h
   ·rename_i q hq
    have hv:a.eval c=.bool q:=by
     have:=ld (T:=T) (a:=a) (ν:=ν) (z:=c) λt _=>s.tmps t
     rw[hq]at this;simpa only[VR]using this
    refine wp_cond hv ?_;rcases kZ h with⟨rfl,h⟩|⟨rfl,h⟩
    ·rw[G4 hq]at h
     exact D m0 Λ x hx M o f hM j T H d Q a w ν h s u
    ·rw[G4 hq]at h
     exact D m0 Λ y hy M o f hM j T H d Q a w ν h s u
   ·exact h.elim
  |block id b=>
   obtain⟨L,hs⟩:=ahQ hL;simp only[a0]at h;split at h
   ·rename_i S hΛ
    exact hs S hΛ M o f hM j T H d Q a w ν h s u
   ·exact wp_block (oN (D m0 Λ b L M o f hM j T H _ Q a w ν h s u) λe R B C=>al2 C)
  |loop b=>
   have L:=ahS hL;simp only[a0]at h;refine oM n ?_;have key:∀(m:O)(T:E AV)(H:E AB)(a:aV)(w:υ)(ν:Nu),(iter (a0 P Γ n Λ b) m T H d).ok Q->SR M o f T H a w ν->a.defers=[]->Zw P b (post M o f d Q) m a w:=by
    intro m;induction m with
    |zero=>intro T H a w ν h;exact h.elim
    |succ m ihm=>intro T H a w ν h s u;rw[oL];exact oN (D m0 Λ b L M o f hM j T H _ Q a w ν h s u) λe R B C=>Wy C λT' G p N v A=>ihm T' G R B p N v A
   exact key n T H a w ν h s u
  |scope b=>have L:=ahT hL;simp only[a0]at h;exact wp_scope_straight (oN (D m0 Λ b L M o f hM j T H d Q a w ν h s u) λe R B C=>al3 C)
  |exit id=>exact wp_exit (r (.exit id) h)
  |ret=>exact wp_ret (r .ret h)
  |_=>simp only[a0]at h;exact h.elim
def ad(P:aF)(Γ:aE)(Λ:O->χ Sum)(n:O)(fn:cA)(avs:E AV)(H:E AB)(a:AV->E AB->ao):ao:=
 match fn.body with
 |some c=>pX (avs++ez (fn.ntmps-avs.length) (.v aX)) λT=>a0 P Γ n Λ c T H (mg P fn a)
 |none=>.err
def Ro{P:aF}{Γ:aE}(l:aK P Γ)(g:P.follows .mixedOrders=ε)(j:Enters P){Λ:O->χ Sum}{n:O}{f:bq}{fn:cA}{avs:E AV}{H:E AB}{ν:Nu}{vals:E τ}{w:υ}{Q:Ex->E AV->E AB->Prop}{M:O->Prop}{m:AV->E AB->ao}(q:P.funcs[f]?=γ fn)(r:∀c,fn.body=γ c->eK P H.length Λ c)(hM:∀k,w.heap.size<=k->M k)(h:(ad P Γ Λ n fn avs H m).ok Q)(s:ax ν avs vals)(t:RH M ν (λb=>H.getD b .gone) w)(d:∀i b,ν i=γ b->i<H.length):aH P f vals.toArray w λe w'=>∃v o H' a,e=.returned v/\(m o H').ok Q/\VR a o v/\RH M a (λb=>H'.getD b .gone) w'/\Fr M w w'/\Le ν a/\∀i b,a i=γ b->i<H'.length:=by
 unfold ad at h;split at h
 ·rename_i c p
  rw[sQ]at h;exact D0 q p (oN (sM l g j n H.length Λ c (r c p) M w ν hM d _ H (mg P fn m) Q _ w ν h (qw s t d) rfl) λe x w' u=>KB u)
 ·exact h.elim
def K:O->χ Sum:=λ_=>ζ
def cT(P:aF)(m0:O)(c:a9):eK P m0 K c:=λ_ _ h=>by cases h
def ed:AV->E AB->ao:=λv _=>.out .ret [v] []
abbrev rv(x:τ):ao:=.out .ret [.v x] []
abbrev rt(xs:E AV):ao:=.out .ret [.Ψ xs] []
abbrev ra(xs:E AV):ao:=.out .ret [.agg xs] []
def nO(x:τ):Ex->E AV->E AB->Prop:=λ_ l _=>∃a,l=[a]/\a.ip=γ x
def aS(a:E τ->χ (τ×E κ)):Spec:=λb _ _=>match AV.mD b with
 |some c=>(a c).map λx=>{val:=.v x.1,ap:=x.2}
 |none=>ζ
def QN(w:υ)(x:τ)(e:Ending)(w':υ):Prop:=e=.returned x/\Fr (λ_=>jc) w w'
def nl{P:aF}{f:bq}{a:E τ->χ (τ×E κ)}(q:∀args w,(g_ f args).run P w=.ok (.enter f args) w)(h:∀vs x ob,a vs=γ (x,ob)->aJ ob=ε->∀w,aY (λk=>w.heap.size<=k) w->aH P f vs.toArray w (QN w x)):au P f (aS a):=by
 refine⟨q,λr H o A s p w c t u _ _ _ _ v=>?_⟩;unfold aS at c;split at c
 ·rename_i vs g
  simp only[dt]at c;obtain⟨⟨x,ob⟩,y,rfl⟩:=c;have e:=oR g u;subst e;refine(h _ _ _ y t w (v.mono λk _ l=>.inl l)).mono ?_;rintro e B ⟨rfl,d⟩;refine⟨x,s,rfl,Le.refl _,λi h z=>aO h z,by simp only[VR],by intro i b m;simp[eO]at m,by intro j b m;simp at m,d.os,d.tape,d.output,d.size,λk l _=>d.block k l λf=>f,by intro j b n;simp at n,by intro j C b D _ n;simp at n⟩
 ·cases c
def Ru{P:aF}{Γ:aE}(g:aK P Γ)(a:P.follows .mixedOrders=ε)(d:Enters P){n:O}{f:bq}{fn:cA}(o:P.funcs[f]?=γ fn){vs:E τ}{x:τ}(h:(ad P Γ K n fn (vs.map .v) [] ed).ok (nO x))(w:υ)(p:aY (λk=>w.heap.size<=k) w):aH P f vs.toArray w (QN w x):=by have q:RH (λk=>w.heap.size<=k) (λ_=>ζ) (λb=>([]:E AB).getD b .gone) w:=⟨λi=>trivial,λi j b A _ h=>by simp[AB.wr]at h,λi b h=>by simp[AB.wr]at h,(λi b h=>by cases h),p⟩;refine(Ro g a d o (λc _=>cT P _ c) (M:=λk=>w.heap.size<=k) (λk l=>l) h (ax.vb vs) q (λi b h=>by cases h)).mono ?_;rintro e B ⟨v,C,D,r,rfl,⟨s,m,t⟩,u,_,y,_⟩;simp only[lA,aa]at m;subst m;exact⟨by rw[iP t u],y.mono λk l z=>by omega⟩
def ext(Γ:aE)(f:bq)(S:Spec):aE:=λg=>cond (ai g f) (γ S) (Γ g)
def az{P:aF}{Γ:aE}{f:bq}{S:Spec}(h:aK P Γ)(c:au P f S):aK P (ext Γ f S):=by
 intro g d a;unfold ext at a;cases b:ai g f with
 |true=>rw[b]at a;cases a;rw[ci b];exact c
 |false=>rw[b]at a;exact h g d a
mutual
def lR(b:E O):AV->χ AV
 | .v x=>γ (.v x)
 | .ptr i w j k=>(b.idxOf? i).map λi=>.ptr i w j k
 | .sl i w j k l c=>(b.idxOf? i).map λi=>.sl i w j k l c
 | .own i l=>(b.idxOf? i).map λi=>.own i l
 | .agg d=>(kH b d).map .agg
 | .Ψ d=>(kH b d).map .Ψ
 | .fn f d=>(kH b d).map (.fn f)
 | .err q=>γ (.err q)
 | .dead=>γ .dead
def kH(b:E O):E AV->χ (E AV)
 |[]=>γ []
 |a::e=>match lR b a,kH b e with
  |some x,γ g=>γ (x::g)
  |_,_=>ζ
end
def gK(a:E O):AB->χ AB
 | .cells c t=>(kH a c).map λc=>.cells c t
 |b=>γ b
def vu(a:E O)(H:E AB):E O->χ (E AB)
 |[]=>γ []
 |i::l=>match gK a (H.getD i .gone),vu a H l with
  |some x,γ b=>γ (x::b)
  |_,_=>ζ
mutual
def agE:AV->E O
 | .ptr i _ _ _=>[i]
 | .sl i _ _ _ _ _=>[i]
 | .own i _=>[i]
 | .agg b=>m8 b
 | .Ψ b=>m8 b
 | .fn _ b=>m8 b
 |_=>[]
def m8:E AV->E O
 |[]=>[]
 |a::c=>agE a++m8 c
end
def Ug:AB->E O
 | .cells a _=>m8 a
 |_=>[]
def reach(H:E AB):O->E O->E O->E O
 |0,a,_=>a
 |_+1,a,[]=>a
 |f+1,a,i::r=>cond (a.elem i) (reach H f a r) (reach H f (a++[i]) (r++Ug (H.getD i .gone)))
def ea(live:E O):O->E AV->E AV
 |_,[]=>[]
 |i,a::b=>cond (live.elem i) a .dead::ea live (i+1) b
def iZ:E O->κ
 |[]=>ε
 |i::l=> !l.elem i&&iZ l
def np:O->O->E O
 |_,0=>[]
 |i,n+1=>i::np (i+1) n
def iI(m:O)(T:E AV)(H:E AB):E O:=reach H 400 (np 0 m) (m8 T++(H.take m).flatMap Ug)
def mF(live:E O)(m:O)(T:E AV)(H:E AB):χ (E AV×E AB):=
 match kH (iI m (ea live 0 T) H) (ea live 0 T),vu (iI m (ea live 0 T) H) H (iI m (ea live 0 T) H)with
 |some a,γ b=>cond (iZ (iI m (ea live 0 T) H)&&(iI m (ea live 0 T) H).take m==np 0 m) (γ (a,b)) ζ
 |_,_=>ζ
def fg(a:E O)(ν:Nu):Nu:=λj=>match a[j]?with|some i=>ν i|none=>ζ
def F':∀{b:E O}{i j:O},b.idxOf? i=γ j->b[j]?=γ i
 |[],i,j,h=>by simp at h
 |a::l,i,j,h=>by
  rw[List.idxOf?_cons]at h;split at h
  ·rename_i e
   cases h;simp at e;simp[e]
  ·simp only[dt]at h
   obtain⟨k,c,rfl⟩:=h;simpa using F' c
mutual
theorem VR.ol{f:E O}{ν:Nu}:∀{a i:AV}{y:τ},lR f a=γ i->VR ν a y->VR (fg f ν) i y
 | .v _,i,_,d,e=>by simp only[lR,ar]at d;subst d;simpa only[VR]using e
 | .ptr ..,i,_,d,e=>by simp only[lR,dt]at d;obtain⟨q,j,rfl⟩:=d;simp only[VR]at e⊢;obtain⟨b,g,h⟩:=e;exact⟨b,by simp[fg,F' j,g],h⟩
 | .sl ..,i,_,d,e=>by simp only[lR,dt]at d;obtain⟨q,j,rfl⟩:=d;simp only[VR]at e⊢;obtain⟨p,c,g,h,r,s⟩:=e;exact⟨p,c,g,h,r,λt=>let⟨b,u,v⟩:=s t;⟨b,by simp[fg,F' j,u],v⟩⟩
 | .own ..,i,_,d,e=>by simp only[lR,dt]at d;obtain⟨q,j,rfl⟩:=d;simp only[VR]at e⊢;obtain⟨b,g,h⟩:=e;exact⟨b,by simp[fg,F' j,g],h⟩
 | .agg o,i,_,d,e=>by simp only[lR,dt]at d;obtain⟨q,j,rfl⟩:=d;simp only[VR]at e⊢;obtain⟨l,g,h⟩:=e;exact⟨l,g,ax.ol j h⟩
 | .Ψ o,i,_,d,e=>by simp only[lR,dt]at d;obtain⟨q,j,rfl⟩:=d;simp only[VR]at e⊢;obtain⟨l,g,h⟩:=e;exact⟨l,g,ax.ol j h⟩
 | .fn _ o,i,_,d,e=>by simp only[lR,dt]at d;obtain⟨q,j,rfl⟩:=d;simp only[VR]at e⊢;obtain⟨l,g,h⟩:=e;exact⟨l,g,ax.ol j h⟩
 | .err _,i,_,d,e=>by simp only[lR,ar]at d;subst d;simpa only[VR]using e
 | .dead,i,_,d,_=>by simp only[lR,ar]at d;subst d;simp only[VR]
theorem ax.ol{f:E O}{ν:Nu}:∀{n k:E AV}{m:E τ},kH f n=γ k->ax ν n m->ax (fg f ν) k m
 |[],k,m,d,e=>by
  simp only[kH,ar]at d;subst d;cases m with
  |nil=>simp only[ax]
  |cons=>simp only[ax]at e
 |a::n,k,m,d,e=>by
  cases m with
  |nil=>simp only[ax]at e
  |cons y m=>
   simp only[ax]at e;simp only[kH]at d;split at d
   ·rename_i x w g h
    cases d;simp only[ax];exact⟨VR.ol g e.1,ax.ol h e.2⟩
   ·cases d
end
def B1(live:E O):∀(T:E AV)(i t:O),(ea live i T).getD t .dead=if live.elem (i+t)then T.getD t .dead else .dead
 |[],i,t=>by simp[ea]
 |a::b,i,0=>by simp only[ea,zB,iu];cases live.elem i<;>rfl
 |a::b,i,t+1=>by simp only[ea,DB];rw[B1 live b (i+1) t,show i+1+t=i+(t+1) by omega]
def B2(live:E O):∀(T:E AV)(i:O),(ea live i T).length=T.length
 |[],_=>rfl
 |a::b,i=>by simp[ea,B2 live b]
def Na{b:E O}:∀{l c:E AV},kH b l=γ c->∀t,lR b (l.getD t .dead)=γ (c.getD t .dead)
 |[],c,h,t=>by simp only[kH,ar]at h;subst h;simp[lR]
 |a::f,c,h,t=>by
  simp only[kH]at h;split at h
  ·rename_i x g d e
   cases h;cases t with
   |zero=>simpa using d
   |succ t=>simpa using Na e t
  ·cases h
def yH{b:E O}:∀{l c:E AV},kH b l=γ c->c.length=l.length
 |[],c,h=>by simp only[kH,ar]at h;subst h;rfl
 |a::e,c,h=>by
  simp only[kH]at h;split at h
  ·rename_i x f g d
   cases h;simp[yH d]
  ·cases h
def GS{c:E O}{H:E AB}:∀{l:E O}{d:E AB},vu c H l=γ d->d.length=l.length/\∀(t i:O),l[t]?=γ i->∃b,d[t]?=γ b/\gK c (H.getD i .gone)=γ b
 |[],d,h=>by simp only[vu,ar]at h;subst h;exact⟨rfl,λt i h=>by simp at h⟩
 |a::m,d,h=>by
  simp only[vu]at h;split at h
  ·rename_i x n f g
   cases h;obtain⟨j,k⟩:=GS g;refine⟨by simp[j],λt i e=>?_⟩;cases t with
   |zero=>simp at e;subst e;exact⟨x,rfl,f⟩
   |succ t=>simpa using k t i (by simpa using e)
  ·cases h
def yh:∀{l:E O},iZ l=ε->∀(i j x:O),l[i]?=γ x->l[j]?=γ x->i=j
 |[],_,i,j,x,h,_=>by simp at h
 |a::l,h,i,j,x,c,d=>by
  simp only[iZ,aM,it]at h;have b:∀k:O,l[k]?=γ a->jc:=λk f=>by have:a∈l:=g8 f;have e:=h.1;simp at e;exact e this
  cases i with
  |zero=>
   simp at c;subst c;cases j with
   |zero=>rfl
   |succ j=>exact(b j (by simpa using d)).elim
  |succ i=>
   cases j with
   |zero=>simp at d;subst d;exact(b i (by simpa using c)).elim
   |succ j=>rw[yh h.2 i j x (by simpa using c) (by simpa using d)]
def YM:∀(n i k:O),k<n->(np i n)[k]?=γ (i+k)
 |0,i,k,h=>by omega
 |n+1,i,0,_=>by simp[np]
 |n+1,i,k+1,h=>by
  simp only[np,tU];rw[YM n (i+1) k (by omega)]
  congr 1
  omega
def nt{M:O->Prop}{U:υ}{y:Nu}{live:E O}{m:O}{T T':E AV}{H H':E AB}{a:aV}{w:υ}{ν:Nu}(h:mF live m T H=γ (T',H'))(u:SR M U y T H a w ν)(h0:∀i b,y i=γ b->i<m):SR M U y T' H' a w (fg (iI m (ea live 0 T) H) ν):=by
 unfold mF at h;generalize iI m (ea live 0 T) H=c at*;split at h
 ·rename_i T1 I W hH
  cases G:(iZ c&&c.take m==np 0 m)with
  |false=>rw[G]at h;cases h
  |true=>
   rw[G]at h;simp only[aZ,ar,cG]at h;obtain⟨rfl,rfl⟩:=h;simp only[aM]at G;obtain⟨L,z⟩:=G;have z:c.take m=np 0 m:=by simpa using z
   obtain⟨X,hg⟩:=GS hH;have o:∀{j b},fg c ν j=γ b->∃i,c[j]?=γ i/\ν i=γ b:=by
    intro j b d;unfold fg at d;split at d
    ·rename_i i k;exact⟨i,k,d⟩
    ·cases d
   have p:∀{j i},c[j]?=γ i->gK c (H.getD i .gone)=γ (I.getD j .gone):=by
    intro j i k;obtain⟨b,r,v⟩:=hg j i k;have e:I.getD j .gone=b:=by simp[cq,r]
    rw[e];exact v
   have f:∀{b C:AB},gK c b=γ C->C.wr=b.wr/\C.live=b.live:=by
    intro b C d;cases b with
    |cells cs t=>simp only[gK,dt]at d;obtain⟨q,_,rfl⟩:=d;exact⟨rfl,rfl⟩
    |row=>simp only[gK,ar]at d;subst d;exact⟨rfl,rfl⟩
    |gone=>simp only[gK,ar]at d;subst d;exact⟨rfl,rfl⟩
   refine⟨λt=>?_,⟨λj=>?_,?_,?_,?_,u.heap.eC⟩,u.fr,λj b d=>?_,by rw[yH W,B2];exact u.len,λi b d=>?_⟩
   ·have s:=Na W t
    rw[B1]at s;split at s
    ·exact(u.tmps t).ol s
    ·simp only[lR,ar]at s
     rw[<-s];simp only[VR]
   ·cases D:c[j]?with
    |none=>
     have:I.getD j .gone=.gone:=by
      rw[cq,l0]
      ·rfl
      ·rw[X]
       exact List.getElem?_eq_none_iff.1 D
     simp only[this];trivial
    |some i=>
     have d:=u.heap.br i;have x:=p D;have A:fg c ν j=ν i:=by simp[fg,D]
     cases k:H.getD i .gone with
     |cells cs t=>rw[k]at x d;simp only[gK,dt]at x;obtain⟨cs',s,h2⟩:=x;rw[<-h2];obtain⟨b,l,r,v,N,e4⟩:=d;exact⟨b,l,by rw[A];exact r,v,N,e4.ol s⟩
     |row rw' n wd g t=>
      rw[k]at x d;simp only[gK,ar]at x;rw[<-x];rcases d with⟨r,v,N⟩|⟨b,l,t',fz,r,v⟩
      ·exact .inl ⟨r,v,by rw[A];exact N⟩
      ·exact .inr ⟨b,l,t',fz,by rw[A];exact r,v⟩
     |gone=>rw[k]at x;simp only[gK,ar]at x;rw[<-x];trivial
   ·intro i j b C P Q R d S
    obtain⟨B,k,r⟩:=o d;obtain⟨j',D,v⟩:=o S;refine u.heap.sep B j' b C (λe=>P (yh L i j B k (e▸D))) ?_ ?_ r v
    ·rw[<-(f (p k)).1];exact Q
    ·rw[<-(f (p D)).2];exact R
   ·intro i b Q d
    obtain⟨B,k,r⟩:=o d;exact u.heap.own B b (by rw[<-(f (p k)).1];exact Q) r
   ·intro i b d
    obtain⟨B,k,r⟩:=o d;exact u.heap.lt B b r
   ·obtain⟨B,k,r⟩:=o d
    rw[X];exact(eV.1 k).1
   ·have k:=h0 i b d
    have:c[i]?=γ i:=by have s:=YM m 0 i k;rw[<-z,mL,aP k,bF]at s;exact s
    simp[fg,this,u.le i b d]
 ·cases h
def Ξ:AB->AB->Prop
 | .row rw n w g t,a=>∃c d,a=.row rw c w d t/\c<=n/\∀j,j<c->g j=d j
 |b,a=>b=a
def Ξ.refl(b:AB):Ξ b b:=by
 cases b with
 |row rw n w g t=>exact⟨n,g,rfl,aR _,λ_ _=>rfl⟩
 |_=>rfl
def Ξ.row{rw:κ}{n w:O}{g a:O->E τ}{t:ae}(h:∀j,j<n->g j=a j):Ξ (.row rw n w g t) (.row rw n w a t):=⟨n,a,rfl,aR _,h⟩
def Ξ.cut{rw:κ}{n a w:O}{g b:O->E τ}{t:ae}(c:a<=n)(h:∀j,j<a->g j=b j):Ξ (.row rw n w g t) (.row rw a w b t):=⟨a,b,rfl,c,h⟩
def Ξ.br{ν:Nu}{i:O}{b a:AB}{w:υ}(h:Ξ b a)(c:BR ν i b w):BR ν i a w:=by
 cases b with
 |row rw n u g t=>
  obtain⟨v,x,rfl,y,d⟩:=h;rcases c with⟨e,z,f⟩|⟨b,l,k,m,o,p,q,A,r⟩
  ·exact .inl ⟨e,by omega,f⟩
  ·exact .inr ⟨b,l,k,m,o,p,q,by omega,λj s=>by rw[<-d j s];exact r j (by omega)⟩
 |cells=>cases h;exact c
 |gone=>cases h;trivial
def Ξ.marks{b a:AB}(h:Ξ b a):a.wr=b.wr/\a.live=b.live:=by
 cases b with
 |row rw n c g t=>obtain⟨d,e,rfl,_,_⟩:=h;exact⟨rfl,rfl⟩
 |cells=>cases h;exact⟨rfl,rfl⟩
 |gone=>cases h;exact⟨rfl,rfl⟩
inductive ab:E AB->E AB->Prop
 |nil:ab [] []
 |cons {b b' H H'}:Ξ b b'->ab H H'->ab (b::H) (b'::H')
def ab.refl:∀H:E AB,ab H H
 |[]=>.nil
 |b::H=>.cons (Ξ.refl b) (ab.refl H)
def ab.length:∀{H H':E AB},ab H H'->H.length=H'.length
 |_,_,.nil=>rfl
 |_,_,.cons _ h=>by simp[h.length]
def ab.get:∀{H H':E AB},ab H H'->∀i,Ξ (H.getD i .gone) (H'.getD i .gone)
 |_,_,.nil,i=>by simp[Ξ]
 |_,_,.cons h _,0=>by simpa using h
 |_,_,.cons _ h,i+1=>by simpa using h.get i
def RH.ii{M:O->Prop}{ν:Nu}{H H':E AB}{w:υ}(h:RH M ν (λb=>H.getD b .gone) w)(s:ab H H'):RH M ν (λb=>H'.getD b .gone) w:=
 ⟨λi=>(s.get i).br (h.br i),λi j b d a c e=>h.sep i j b d a (by rw[<-(s.get i).marks.1];exact c) (by rw[<-(s.get j).marks.2];exact e),λi b c=>h.own i b (by rw[<-(s.get i).marks.1];exact c),h.lt,h.eC⟩
def SR.ii{M:O->Prop}{d:υ}{c:Nu}{T:E AV}{H H':E AB}{a:aV}{w:υ}{ν:Nu}(h:SR M d c T H a w ν)(s:ab H H'):SR M d c T H' a w ν:=
 ⟨h.tmps,h.heap.ii s,h.fr,λi b e=>by rw[<-s.length];exact h.b6 i b e,h.len,h.le⟩
def eH(lv:Ex->E O)(m:O):dx:=λe T H=>match mF (lv e) m T H with
 |some p=>.out e p.1 p.2
 |none=>.err
def aw:O->O->E (O×AV)->E AV
 |_,0,_=>[]
 |i,n+1,[]=>.dead::aw (i+1) n []
 |i,n+1,p::r=>bif ai i p.1 then p.2::aw (i+1) n r else .dead::aw (i+1) n (p::r)
def mB:E O->κ
 |[]=>ε
 |[_]=>ε
 |a::b::r=>Δ a b&&mB (b::r)
def Vf{l b:E O}:∀(T:E AV)(i:O),(∀k,i<=k->l.elem k=b.elem k)->ea l i T=ea b i T
 |[],_,_=>rfl
 |a::c,i,h=>by simp only[ea,h i (aR i),Vf c (i+1) λk d=>h k (by omega)]
def WO:∀{a:O}{r:E O},mB (a::r)=ε->mB r=ε/\∀j∈r,a<j
 |a,[],_=>⟨rfl,λ_ h=>by cases h⟩
 |a,b::r,h=>by
  simp only[mB,aM,bS]at h;refine⟨h.2,λj c=>?_⟩;rcases dw.1 c with rfl|c
  ·exact h.1
  ·exact Nat.lt_trans h.1 ((WO h.2).2 j c)
def B3:∀(T:E AV)(i:O)(l:E O),mB l=ε->(∀j∈l,i<=j)->ea l i T=aw i T.length (l.map λj=>(j,T.getD (j-i) .dead))
 |[],i,l,_,_=>by cases l<;>rfl
 |a::f,i,[],_,_=>by have:=B3 f (i+1) [] rfl (λ_ h=>by cases h);simp only[kp]at this;simp only[ea,cn,aw,kp,this];rfl
 |a::f,i,j::r,n,o=>by
  obtain⟨p,b⟩:=WO n;have q:=o j (by simp);by_cases e:i=j
  ·subst e
   have s:ea (i::r) (i+1) f=ea r (i+1) f:=Vf f (i+1) λk c=>by
    have:(k==i)=η:=by simp;omega
    rw[List.elem_cons,this]
   have g:=B3 f (i+1) r p (λk c=>b k c);simp only[ea,s,g,cn,aw,eD,l5,aZ,HP,zB];have t:(i::r).elem i=ε:=by simp
   rw[t]
   congr 2
   refine wk λk c=>?_
   have:=b k c;obtain⟨d,rfl⟩:∃d,k=i+1+d:=⟨k-(i+1),by omega⟩;rw[show i+1+d-(i+1)=d by omega,show i+1+d-i=d+1 by omega,DB]
  ·have u:(j::r).elem i=η:=by rw[List.elem_eq_contains];simp only[List.contains_eq_mem,decide_eq_false_iff_not,dw,ue];refine⟨e,λv=>?_⟩;have:=b i v;omega
   have g:=B3 f (i+1) (j::r) n (λk c=>by
    rcases dw.1 c with rfl|c
    ·omega
    ·have:=b k c;omega)
   have m:ai i j=η:=by
    cases m:ai i j with
    |false=>rfl
    |true=>exact(e (ci m)).elim
   simp only[ea,u,a_,cn,aw,eD,m,g,cq]
   congr 2
   congr 1
   ·rw[show j-i=(j-(i+1))+1 by omega,tU]
   ·refine wk λk c=>?_
    have:=b k c;rw[show k-i=(k-(i+1))+1 by omega,tU]
def Ow(m:O)(T:E AV)(H:E AB):χ (E AV×E AB):=
 match kH (iI m T H) T,vu (iI m T H) H (iI m T H)with
 |some a,γ b=>cond (iZ (iI m T H)&&(iI m T H).take m==np 0 m) (γ (a,b)) ζ
 |_,_=>ζ
def asH{l:E O}(h:mB l=ε){N m:O}{T:E AV}{H:E AB}(a:T.length=N):mF l m T H=Ow m (aw 0 N (l.map λj=>(j,T.getD j .dead))) H:=by subst a;have:=B3 T 0 l h (λ_ _=>eF _);simp only[zI]at this;unfold mF Ow;rw[this]
def apj{P:aF}{Γ:aE}(D:aK P Γ)(v:P.follows .mixedOrders=ε)(x:Enters P){id n m m0:O}{c:a9}{S:Sum}{lv:Ex->E O}(hm:m0<=m)(h:∀T H (d:dx) Q,(S T H d).ok Q->∃(σ:Type)(I:σ->E AV×E AB)(Inv:σ->Prop)(y:σ->O)(s0:σ)(Λ:σ->O->χ Sum),Inv s0/\(∃H1,mF (lv .normal) m T H=γ ((I s0).1,H1)/\ab H1 (I s0).2)/\∀s,Inv s->eK P m0 (Λ s) c/\(a0 P Γ n (Λ s) c (I s).1 (I s).2 (eH lv m)).ok λe T' H'=>match e with
    | .normal=>∃u,Inv u/\T'=(I u).1/\ab H' (I u).2/\y u<y s
    | .exit j=>∃f,ab H' f/\if j=id then(d .normal T' f).ok Q else(d (.exit j) T' f).ok Q
    | .ret=>∃f,ab H' f/\(d .ret T' f).ok Q):cp P m0 (.block id (.loop c)) S:=by
 intro M G o hM z T H d Q a w A hS L N;obtain⟨σ,I,Inv,y,s0,Λ,i0,⟨H1,hw,B⟩,l⟩:=h T H d Q hS;have C:∀i b,o i=γ b->i<m:=λi b hb=>eE (z i b hb) hm
 have R:∀(r:O)(s:σ)(a:aV)(w:υ)(A:Nu),Inv s->y s<r->SR M G o (I s).1 (I s).2 a w A->a.defers=[]->Zw P c (oB id (post M G o d Q)) r a w:=by
  intro r;induction r with
  |zero=>intro s a w A _ U;omega
  |succ r ih=>
   intro s a w A hi U L N;rw[oL];refine oN (sM D v x n m0 (Λ s) c (l s hi).1 M G o hM z _ _ _ _ a w A (l s hi).2 L N) λe a' w' hp=>?_
   obtain⟨e',T',H',ν',rfl,g,W,q⟩:=hp;unfold eH at g;split at g
   ·rename_i p X
    have t:=nt X W C;cases e' with
    |normal=>obtain⟨u,i',he,k,hmu⟩:=g;exact ih u a' w' _ i' (by omega) (by rw[<-he];exact t.ii k) q
    |exit j=>
     simp only[Ex.to,dj.then,oB];obtain⟨f,k,g⟩:=g;split
     ·rename_i hj
      rw[aP hj]at g;exact⟨.normal,_,_,_,rfl,g,t.ii k,q⟩
     ·rename_i hj
      rw[bi hj]at g;exact⟨.exit j,_,_,_,rfl,g,t.ii k,q⟩
    |ret=>obtain⟨f,k,g⟩:=g;exact⟨.ret,_,_,_,rfl,g,t.ii k,q⟩
   ·exact g.elim
 have hR0:=(nt hw L C).ii B;exact wp_block (oM (y s0+1) (R _ s0 a w _ i0 (ft _) hR0 N))
def api{P:aF}{Γ:aE}(k:aK P Γ)(d:P.follows .mixedOrders=ε)(f:Enters P){id n m m0:O}{c:a9}{S:Sum}{lv:Ex->E O}{Λ:O->χ Sum}(l:eK P m0 Λ c)(o:m0<=m)(h:∀T H (a:dx) Q,(S T H a).ok Q->∃(σ:Type)(I:σ->E AV×E AB)(Inv:σ->Prop)(g:σ->O)(s0:σ),Inv s0/\(∃H1,mF (lv .normal) m T H=γ ((I s0).1,H1)/\ab H1 (I s0).2)/\∀s,Inv s->(a0 P Γ n Λ c (I s).1 (I s).2 (eH lv m)).ok λe T' H'=>match e with
  | .normal=>∃i,Inv i/\T'=(I i).1/\ab H' (I i).2/\g i<g s
  | .exit j=>∃b,ab H' b/\if j=id then(a .normal T' b).ok Q else(a (.exit j) T' b).ok Q
  | .ret=>∃b,ab H' b/\(a .ret T' b).ok Q):cp P m0 (.block id (.loop c)) S:=by
 refine apj k d f (n:=n) (lv:=lv) o λT H a Q p=>?_
 obtain⟨σ,I,Inv,g,s0,q,r,t⟩:=h T H a Q p;exact⟨σ,I,Inv,g,s0,λ_=>Λ,q,r,λs u=>⟨l,t s u⟩⟩
def af(m:O):AV->E AB->ao:=λa H=>match mF [0] m [a] H with
 |some p=>.out .ret p.1 p.2
 |none=>.err
def nS{P:aF}{Γ:aE}(r:aK P Γ)(l:P.follows .mixedOrders=ε)(m:Enters P){Λ:O->χ Sum}{n:O}{f:bq}{fn:cA}{avs:E AV}{H:E AB}{ν:Nu}{vals:E τ}{w:υ}{Q:Ex->E AV->E AB->Prop}{M:O->Prop}(B:P.funcs[f]?=γ fn)(C:∀c,fn.body=γ c->eK P H.length Λ c)(hM:∀k,w.heap.size<=k->M k)(h:(ad P Γ Λ n fn avs H (af H.length)).ok Q)(D:ax ν avs vals)(G:RH M ν (λb=>H.getD b .gone) w)(d:∀i b,ν i=γ b->i<H.length):aH P f vals.toArray w λe w'=>∃v g H' a,e=.returned v/\Q .ret [g] H'/\VR a g v/\RH M a (λb=>H'.getD b .gone) w'/\Fr M w w'/\Le ν a/\∀i b,a i=γ b->i<H'.length:=by
 refine(Ro r l m B C hM h D G d).mono ?_;rintro e w' ⟨v,g,H',a,rfl,o,I,L,N,R,S⟩;unfold af at o;split at o
 ·rename_i p y
  have T:SR M w ν [g] H' {tmps:= #[v],defers:=[]} w' a:=by
   refine⟨λt=>?_,L,N,S,by simp,R⟩;cases t with
   |zero=>simpa using I
   |succ t=>simp only[DB,List.getD_nil,VR]
  have j:=nt y T d;have s:p.1.length=1:=by
   have:=y;unfold mF at this;split at this
   ·rename_i X H1 U W
    cases A:(iZ (iI H.length (ea [0] 0 [g]) H')&&(iI H.length (ea [0] 0 [g]) H').take H.length==np 0 H.length)with
    |false=>rw[A]at this;cases this
    |true=>rw[A]at this;cases this;have:=yH U;simpa[ea]using this
   ·cases this
  match u:p.1,s with
  |[x],_=>rw[u]at o j;refine⟨v,x,p.2,_,rfl,o,?_,j.heap,j.fr,j.le,j.b6⟩;simpa using j.tmps 0
 ·exact o.elim
inductive Md where
 |val
 |rd (s:O) (t:ae)
 |wr (s:O) (t:ae)
inductive SA where
 |v (x:τ)
 |row (m:O) (g:O->E τ)
 |own (m n:O) (g:O->E τ)
structure SX where
 sa:SA
 ix:χ O
 ob:E κ
def G2(H:E AB)(d:Md)(a:AV):χ SX:=
 match d with
 | .val=>a.ip.map λx=>⟨.v x,ζ,[]⟩
 | .rd s _=>(match a with
  | .v (.slice ζ 0 0)=>γ ⟨.row 0 (λ_=>[]),ζ,[]⟩
  |a=>(qZ H s a).map λr=>⟨.row r.2.1 r.2.2.1,γ r.1,r.2.2.2⟩)
 | .wr s t=>(match a with
  | .own i m=>(match H.getD i .gone with
   | .row ε n b g c=>if b=s/\c=t then γ ⟨.own m n g,γ i,[Θ m n]⟩else ζ
   |_=>ζ)
  |_=>ζ)
def rP(H:E AB):E Md->E AV->χ (E SX)
 |[],[]=>γ []
 |d::b,a::c=>match G2 H d a,rP H b c with
  |some x,γ e=>γ (x::e)
  |_,_=>ζ
 |_,_=>ζ
def hZ:O->E Md->E SA->E AV
 |k,.val::a,.v x::r=>.v x::hZ k a r
 |k,.rd s _::a,.row m _::r=>.sl k s 0 0 m ζ::hZ (k+1) a r
 |k,.wr _ _::a,.own m _ _::r=>.own k m::hZ (k+1) a r
 |_,_,_=>[]
def bK:E Md->E SA->E AB
 | .val::a,.v _::r=>bK a r
 | .rd s t::a,.row m g::r=>.row η m s g t::bK a r
 | .wr s t::a,.own _ n g::r=>.row ε n s g t::bK a r
 |_,_=>[]
def bI:E Md->E SA->E (O->E τ)->E AB
 | .val::a,.v _::r,b=>bI a r b
 | .rd s t::a,.row m g::r,b=>.row η m s g t::bI a r b
 | .wr s t::a,.own m n g::r,p::b=>.row ε n s (λj=>bif Δ j m then p j else g j) t::bI a r b
 |_,_,_=>[]
def d_:E Md->E SX->E (χ O)
 | .val::a,_::r=>d_ a r
 | .rd _ _::a,x::r=>x.ix::d_ a r
 | .wr _ _::a,x::r=>x.ix::d_ a r
 |_,_=>[]
def fI:E (χ O)->E AB->E (O×AB)
 |some i::a,.row ε n s g t::b=>(i,.row ε n s g t)::fI a b
 |_::a,_::b=>fI a b
 |_,_=>[]
def n5:E Md->κ
 |[]=>η
 | .wr _ _::_=>ε
 |_::a=>n5 a
structure FR where
 val:AV
 new:E AB:=[]
 put:E (O->E τ):=[]
 ap:E κ:=[]
mutual
def ls(d:O):AV->χ AV
 | .v x=>γ (.v x)
 | .own i l=>γ (.own (d+i) l)
 | .sl i w j k l c=>γ (.sl (d+i) w j k l c)
 | .Ψ b=>(vA d b).map .Ψ
 | .agg b=>(vA d b).map .agg
 | .err q=>γ (.err q)
 |_=>ζ
def vA(d:O):E AV->χ (E AV)
 |[]=>γ []
 |a::e=>match ls d a,vA d e with
  |some x,γ f=>γ (x::f)
  |_,_=>ζ
end
def lh:AB->κ
 | .row ε _ _ _ _=>ε
 |_=>η
def am(mds:E Md)(a:E SA->χ FR):Spec:=λe H d=>
 match rP H mds e with
 |some b=>match a (b.map (·.sa))with
  |some c=>match ls d c.val with
   |some f=>cond ((!n5 mds||iZ ((d_ mds b).filterMap id))&&c.new.all lh&&ai (bI mds (b.map (·.sa)) c.put).length (bK mds (b.map (·.sa))).length)
    (γ {val:=f,rd:=(d_ mds b).filterMap id,put:=fI (d_ mds b) (bI mds (b.map (·.sa)) c.put),new:=c.new,ap:=b.flatMap (·.ob)++c.ap}) ζ
   |none=>ζ
  |none=>ζ
 |none=>ζ
def dV(a:E AB)(b:FR):Ex->E AV->E AB->Prop:=λ_ l d=>∃c,ls a.length b.val=γ c/\l=[c]/\ab d (a++b.new)
mutual
theorem VR.shift{d e:O}{ν j:Nu}(h:∀q b,ν (d+q)=γ b->j (e+q)=γ b):∀{a x y:AV}{v:τ},ls d a=γ x->ls e a=γ y->VR ν x v->VR j y v
 | .v _,_,_,_,f,g,i=>by simp only[ls,ar]at f g;subst f g;simpa only[VR]using i
 | .own _ _,_,_,_,f,g,i=>by simp only[ls,ar]at f g;subst f g;simp only[VR]at i⊢;obtain⟨b,k,m⟩:=i;exact⟨b,h _ _ k,m⟩
 | .Ψ w,_,_,_,f,g,i=>by simp only[ls,dt]at f g;obtain⟨o,f,rfl⟩:=f;obtain⟨r,g,rfl⟩:=g;simp only[VR]at i⊢;obtain⟨l,k,m⟩:=i;exact⟨l,k,ax.shift h f g m⟩
 | .agg w,_,_,_,f,g,i=>by simp only[ls,dt]at f g;obtain⟨o,f,rfl⟩:=f;obtain⟨r,g,rfl⟩:=g;simp only[VR]at i⊢;obtain⟨l,k,m⟩:=i;exact⟨l,k,ax.shift h f g m⟩
 | .ptr ..,_,_,_,f,_,_=>by simp[ls]at f
 | .sl ..,_,_,_,f,g,i=>by simp only[ls,ar]at f g;subst f g;simp only[VR]at i⊢;obtain⟨p,c,k,m,z,A⟩:=i;exact⟨p,c,k,m,z,λB=>let⟨b,s,t⟩:=A B;⟨b,h _ _ s,t⟩⟩
 | .fn ..,_,_,_,f,_,_=>by simp[ls]at f
 | .err _,_,_,_,f,g,i=>by simp only[ls,ar]at f g;subst f g;simpa only[VR]using i
 | .dead,_,_,_,f,_,_=>by simp[ls]at f
theorem ax.shift{d e:O}{ν j:Nu}(h:∀q b,ν (d+q)=γ b->j (e+q)=γ b):∀{u o r:E AV}{n:E τ},vA d u=γ o->vA e u=γ r->ax ν o n->ax j r n
 |[],_,_,_,f,g,i=>by
  simp only[vA,ar]at f g;subst f g;rename_i n;cases n with
  |nil=>simp only[ax]
  |cons=>simp only[ax]at i
 |a::u,_,_,n,f,g,i=>by
  simp only[vA]at f g;split at f
  ·rename_i x o C D
   cases f;split at g
   ·rename_i y r s t
    cases g;cases n with
    |nil=>simp only[ax]at i
    |cons v n=>simp only[ax]at i⊢;exact⟨VR.shift h C s i.1,ax.shift h D t i.2⟩
   ·cases g
  ·cases f
end
def aeA{H:E AB}{s:O}{x:AV}{r:O×O× (O->E τ)×E κ}(h:qZ H s x=γ r):(H.getD r.1 .gone).live=ε:=by
 unfold qZ at h;split at h
 ·split at h
  ·rename_i a
   split at h
   ·cases h;simp only[a];rfl
   ·cases h
  ·cases h
 ·split at h
  ·rename_i a
   split at h
   ·cases h;simp only[a];rfl
   ·cases h
  ·cases h
 ·cases h
def aeB{H:E AB}{s:O}{x:AV}{i m:O}{g:O->E τ}{ob:E κ}{ν:Nu}{w:υ}{y:τ}(h:qZ H s x=γ (i,m,g,ob))(D:aJ ob=ε)(G:VR ν x y)(I:BR ν i (H.getD i .gone) w)(t:ae):∃o:χ Bk,(∀(a:Nu)(k:O),a k=o->VR a (.sl k s 0 0 m ζ) y/\BR a k (.row η m s g t) w)/\∀b,o=γ b->∃f,ν i=γ f/\f.n=b.n/\b.n<w.heap.size:=by
 have r:∀(p:χ c9)(c:O),y=.slice p m c->m<=c->(c=0\/∃(f:Bk)(v:O)(l:E τ)(A:ae)(B:O×O),ν i=γ f/\p=γ ⟨f.n,v,ζ⟩/\w.heap[f.n]?=γ (.cells l.toArray A B)/\∀q,q<m->((g q).length=s/\∀x∈g q,x.oneCell'=ε)/\∀k,k<s->l[v+(q*s+k)]?=(g q)[k]?)->
   ∃o:χ Bk,(∀(a:Nu)(k:O),a k=o->VR a (.sl k s 0 0 m ζ) y/\BR a k (.row η m s g t) w)/\∀b,o=γ b->∃f,ν i=γ f/\f.n=b.n/\b.n<w.heap.size:=by
  rintro p c rfl z (rfl|⟨f,v,l,A,B,d,rfl,L,M⟩)
  ·have W:m=0:=by omega
   subst W;refine⟨ζ,λa k C=>⟨?_,.inl ⟨rfl,rfl,C⟩⟩,λb u=>by cases u⟩;simp only[VR];exact⟨p,0,rfl,by simp,aR _,λh=>aO h (nF 0)⟩
  ·refine⟨γ ⟨f.n,v,m⟩,λa k C=>⟨?_,.inr ⟨_,l,A,B,C,L,by simp,aR _,M⟩⟩,λb u=>?_⟩
   ·simp only[VR]
    exact⟨_,c,rfl,by simp,z,λ_=>⟨_,C,by simp⟩⟩
   ·cases u
    exact⟨f,d,rfl,(cm.1 L).1⟩
 unfold qZ at h;split at h
 ·rename_i X N
  split at h
  ·rename_i P n wd g' tt Q
   split at h
   ·rename_i e
    subst e;simp only[ar,cG]at h;obtain⟨rfl,rfl,rfl,rfl⟩:=h;simp only[VR]at G;obtain⟨b,u,rfl⟩:=G;rw[Q]at I;rcases I with⟨_,_,d⟩|⟨b',l,A,B,d,R,L,M,S⟩
    ·rw[u]at d;cases d
    rw[u]at d;cases d;have T:N<=n:=by simp only[aJ,gl,jR,iM,id]at D;exact pC D
    exact r _ _ rfl (by omega) (.inr ⟨b,b.o,l,A,B,u,rfl,R,λq hq=>S q (by omega)⟩)
   ·cases h
  ·cases h
 ·rename_i X w' j k N cap
  split at h
  ·rename_i P n wd g' tt Q
   split at h
   ·rename_i e
    obtain⟨rfl,rfl,rfl⟩:=e;simp only[ar,cG]at h;obtain⟨rfl,rfl,rfl,rfl⟩:=h;simp only[VR]at G;obtain⟨p,c,rfl,hc,z,hp⟩:=G;have T:j+N<=n:=by simp only[aJ,gl,jR,iM,id]at D;exact pC D
    rcases pB c with U|U
    ·exact r _ _ rfl z (.inl U)
    ·obtain⟨b,u,rfl⟩:=hp U
     rw[Q]at I;rcases I with⟨_,h00,d⟩|⟨b',l,A,B,d,R,L,M,S⟩
     ·rw[u]at d;cases d
     rw[u]at d;cases d;refine r _ _ rfl z (.inr ⟨b,_,l,A,B,u,rfl,R,λq hq=>?_⟩);obtain⟨f1,f2⟩:=S (j+q) (by omega);refine⟨f1,λk C=>?_⟩;rw[<-f2 k C,fN]
     congr 1
     omega
   ·cases h
  ·cases h
 ·cases h
structure aaX (H:E AB) (ν:Nu) (w:υ) (mds:E Md) (xs:E SX) (sas:E SA) (vals:E τ) (L:E (χ Bk)):Prop where
 len:L.length=(bK mds sas).length
 L8:(d_ mds xs).length=L.length
 all:∀(k:O)(νc:Nu),(∀j,j<L.length->νc (k+j)=(L[j]?).join)->ax νc (hZ k mds sas) vals/\∀(j:O) b,(bK mds sas)[j]?=γ b->BR νc (k+j) b w
 back:∀(j:O) b,L[j]?=γ (γ b)->∃i b0,(d_ mds xs)[j]?=γ (γ i)/\ν i=γ b0/\b0.n=b.n/\b.n<w.heap.size/\(H.getD i .gone).live=ε/\(∀c,(bK mds sas)[j]?=γ c->c.wr=ε->b=b0/\(H.getD i .gone).wr=ε)
def EB{H:E AB}{ν:Nu}{w:υ}:∀{mds:E Md}{avs:E AV}{xs:E SX}{vals:E τ},rP H mds avs=γ xs->aJ (xs.flatMap (·.ob))=ε->ax ν avs vals->(∀i∈ (d_ mds xs).filterMap id,BR ν i (H.getD i .gone) w)->(∀i b,ν i=γ b->b.n<w.heap.size)->∃L,aaX H ν w mds xs (xs.map (·.sa)) vals L
 |[],[],xs,vals,h,_,u,_,_=>by
  simp only[rP,ar]at h;subst h;cases vals with
  |nil=>exact⟨[],rfl,rfl,λk f _=>⟨by simp only[hZ,ax],λj b p=>by simp[bK]at p⟩,λj b p=>by simp at p⟩
  |cons=>simp only[ax]at u
 |d::ds,a::β,xs,vals,h,ho,u,N,C=>by
  simp only[rP]at h;split at h
  ·rename_i x W q X
   cases h;cases vals with
   |nil=>simp only[ax]at u
   |cons y ys=>
   simp only[ax]at u;have D:aJ x.ob=ε/\aJ (W.flatMap (·.ob))=ε:=by simpa[aJ,gC]using ho
   cases d with
   |val=>
    obtain⟨L,r⟩:=EB (w:=w) X D.2 u.2 (λi hi=>N i (by simpa[d_]using hi)) C;simp only[G2,dt]at q;obtain⟨z,hz,rfl⟩:=q;refine⟨L,by simpa[bK]using r.len,by simpa[d_]using r.L8,λk f G=>?_,λj b p=>?_⟩
    ·obtain⟨P,Q⟩:=r.all k f G
     refine⟨?_,λj b p=>Q j b (by simpa[bK]using p)⟩;simp only[eD,hZ,ax,VR];exact⟨iP hz u.1,P⟩
    ·simpa[d_,bK]using r.back j b p
   |rd s t=>
    obtain⟨L,r⟩:=EB (w:=w) X D.2 u.2 (λi hi=>N i (by simp only[d_,Z1];cases x.ix<;>simp_all)) C;have key:∃m g,x.sa=.row m g/\∃o:χ Bk,(∀(f:Nu)(k:O),f k=o->VR f (.sl k s 0 0 m ζ) y/\BR f k (.row η m s g t) w)/\∀b,o=γ b->∃i I,x.ix=γ i/\ν i=γ I/\I.n=b.n/\b.n<w.heap.size/\(H.getD i .gone).live=ε:=by
     simp only[G2]at q;split at q
     ·cases q
      simp only[VR]at u;refine⟨0,λ_=>[],rfl,ζ,λf k G=>⟨?_,.inl ⟨rfl,rfl,G⟩⟩,λb p=>by cases p⟩;simp only[VR];exact⟨ζ,0,u.1,by simp,aR _,λh=>aO h (nF 0)⟩
     ·simp only[dt]at q
      obtain⟨⟨i,m,g,ob⟩,he,rfl⟩:=q;obtain⟨o,U,e2⟩:=aeB he D.1 u.1 (N i (by simp[d_])) t;exact⟨m,g,rfl,o,U,λb p=>let⟨I,M,R,f3⟩:=e2 b p;⟨i,I,rfl,M,R,f3,aeA he⟩⟩
    obtain⟨m,g,v,o,U,e2⟩:=key;refine⟨o::L,by simp[bK,v,r.len],by simp[d_,r.L8],λk f G=>?_,λj b p=>?_⟩
    ·have A:f k=o:=by simpa using G 0 (by simp)
     obtain⟨P,Q⟩:=r.all (k+1) f (λj hj=>by
      have:=G (j+1) (by simpa using hj)
      rwa [show k+(j+1)=k+1+j by omega,tU]at this)
     refine⟨?_,λj b p=>?_⟩
     ·simp only[eD,v,hZ,ax]
      exact⟨(U f k A).1,P⟩
     ·simp only[eD,v,bK]at p
      cases j with
      |zero=>simp at p;subst p;exact(U f k A).2
      |succ j=>
       have:=Q j b (by simpa using p)
       rwa [show k+1+j=k+(j+1) by omega]at this
    ·cases j with
     |zero=>simp only[kn,ar]at p;obtain⟨i,I,M,R,f3,f4,f5⟩:=e2 b p;refine⟨i,I,by simp[d_,M],R,f3,f4,f5,λc B hw=>?_⟩;simp only[eD,v,bK,kn,ar]at B;subst B;simp[AB.wr]at hw
     |succ j=>have:=r.back j b (by simpa using p);simpa[d_,v,bK]using this
   |wr s t=>
    obtain⟨L,r⟩:=EB (w:=w) X D.2 u.2 (λi hi=>N i (by simp only[d_,Z1];cases x.ix<;>simp_all)) C;simp only[G2]at q;split at q
    ·rename_i i m
     split at q
     ·rename_i n wd g ty hH
      split at q
      ·rename_i e
       obtain⟨rfl,rfl⟩:=e;cases q;have S:=u.1;simp only[VR]at S;obtain⟨b,p,rfl⟩:=S;have T:=N i (by simp[d_]);rw[hH]at T;rcases T with⟨h00,_,_⟩|⟨b',l,t',fz,M,R⟩
       ·cases h00
       rw[p]at M;cases M;refine⟨γ b::L,by simp[bK,r.len],by simp[d_,r.L8],λk f G=>?_,λj c B=>?_⟩
       ·have A:f k=γ b:=by simpa using G 0 (by simp)
        obtain⟨P,Q⟩:=r.all (k+1) f (λj hj=>by
         have:=G (j+1) (by simpa using hj)
         rwa [show k+(j+1)=k+1+j by omega,tU]at this)
        refine⟨?_,λj c B=>?_⟩
        ·simp only[eD,hZ,ax,VR]
         exact⟨⟨b,A,rfl⟩,P⟩
        ·simp only[eD,bK]at B
         cases j with
         |zero=>simp at B;subst B;exact .inr ⟨b,l,t',fz,A,R⟩
         |succ j=>
          have:=Q j c (by simpa using B)
          rwa [show k+1+j=k+(j+1) by omega]at this
       ·cases j with
        |zero=>simp only[kn,ar]at B;subst B;exact⟨i,b,by simp[d_],p,rfl,C i b p,by rw[hH];rfl,λc _ _=>⟨rfl,by rw[hH];rfl⟩⟩
        |succ j=>have:=r.back j c (by simpa using B);simpa[d_,bK]using this
      ·cases q
     ·cases q
    ·cases q
  ·cases h
 |[],_::_,_,_,h,_,_,_,_=>by simp[rP]at h
 |_::_,[],_,_,h,_,_,_,_=>by simp[rP]at h
def wS:∀{mds:E Md}{sas:E SA}{ps:E (O->E τ)}{j:O}{b c:AB},(bK mds sas)[j]?=γ b->(bI mds sas ps)[j]?=γ c->c.wr=b.wr/\c.live=ε/\b.live=ε
 |[],sas,ps,j,b,c,h,_=>by cases sas<;>simp[bK]at h
 | .val::d,[],ps,j,b,c,h,_=>by simp[bK]at h
 | .rd _ _::d,[],ps,j,b,c,h,_=>by simp[bK]at h
 | .wr _ _::d,[],ps,j,b,c,h,_=>by simp[bK]at h
 | .val::d,.v _::r,ps,j,b,c,h,a=>by simp only[bK,bI]at h a;exact wS h a
 | .val::d,.row _ _::r,ps,j,b,c,h,a=>by simp[bK]at h
 | .val::d,.own _ _ _::r,ps,j,b,c,h,a=>by simp[bK]at h
 | .rd _ _::d,.v _::r,ps,j,b,c,h,a=>by simp[bK]at h
 | .rd _ _::d,.own _ _ _::r,ps,j,b,c,h,a=>by simp[bK]at h
 | .wr _ _::d,.v _::r,ps,j,b,c,h,a=>by simp[bK]at h
 | .wr _ _::d,.row _ _::r,ps,j,b,c,h,a=>by simp[bK]at h
 | .rd s t::d,.row m g::r,ps,j,b,c,h,a=>by
  simp only[bK,bI]at h a;cases j with
  |zero=>simp at h a;subst h a;exact⟨rfl,rfl,rfl⟩
  |succ j=>exact wS (j:=j) (by simpa using h) (by simpa using a)
 | .wr s t::d,.own m n g::r,[],j,b,c,h,a=>by simp[bI]at a
 | .wr s t::d,.own m n g::r,p::ps,j,b,c,h,a=>by
  simp only[bK,bI]at h a;cases j with
  |zero=>simp at h a;subst h a;exact⟨rfl,rfl,rfl⟩
  |succ j=>exact wS (j:=j) (by simpa using h) (by simpa using a)
def yA:∀{is:E (χ O)}{bs:E AB}{i:O}{c:AB},(i,c)∈fI is bs->∃j:O,is[j]?=γ (γ i)/\bs[j]?=γ c/\c.wr=ε
 |[],bs,i,c,h=>by cases bs<;>simp[fI]at h
 |none::is,[],i,c,h=>by simp[fI]at h
 |some _::is,[],i,c,h=>by simp[fI]at h
 |none::is,b::bs,i,c,h=>by simp only[fI]at h;obtain⟨j,a,d,e⟩:=yA h;exact⟨j+1,by simpa using a,by simpa using d,e⟩
 |some q::is,b::bs,i,c,h=>by
  cases b with
  |row rw n s g t=>
   cases rw with
   |true=>
    simp only[fI,dw]at h;rcases h with h|h
    ·cases h
     exact⟨0,rfl,rfl,rfl⟩
    ·obtain⟨j,a,d,e⟩:=yA h
     exact⟨j+1,by simpa using a,by simpa using d,e⟩
   |false=>simp only[fI]at h;obtain⟨j,a,d,e⟩:=yA h;exact⟨j+1,by simpa using a,by simpa using d,e⟩
  |cells=>simp only[fI]at h;obtain⟨j,a,d,e⟩:=yA h;exact⟨j+1,by simpa using a,by simpa using d,e⟩
  |gone=>simp only[fI]at h;obtain⟨j,a,d,e⟩:=yA h;exact⟨j+1,by simpa using a,by simpa using d,e⟩
def GL:∀{is:E (χ O)}{bs:E AB}{j i:O}{n s:O}{g:O->E τ}{t:ae},is[j]?=γ (γ i)->bs[j]?=γ (.row ε n s g t)->(i,.row ε n s g t)∈fI is bs
 |[],bs,j,i,n,s,g,t,h,_=>by simp at h
 |x::is,[],j,i,n,s,g,t,_,h=>by simp at h
 |x::is,b::bs,0,i,n,s,g,t,h,c=>by simp at h c;subst h c;simp[fI]
 |x::is,b::bs,j+1,i,n,s,g,t,h,c=>by
  have a:=GL (is:=is) (bs:=bs) (j:=j) (by simpa using h) (by simpa using c);cases x with
  |none=>simpa[fI]using a
  |some q=>
   cases b with
   |row rw=>
    cases rw with
    |true=>simp only[fI,dw];exact .inr a
    |false=>simpa[fI]using a
   |cells=>simpa[fI]using a
   |gone=>simpa[fI]using a
def afa{l:E (χ O)}{j i:O}(h:l[j]?=γ (γ i)):i∈l.filterMap id:=List.mem_filterMap.2 ⟨γ i,g8 h,rfl⟩
def KA:∀{l:E (χ O)},iZ (l.filterMap id)=ε->∀(j b i:O),l[j]?=γ (γ i)->l[b]?=γ (γ i)->j=b
 |[],_,j,_,_,h,_=>by simp at h
 |none::l,h,j,b,i,d,e=>by
  cases j with
  |zero=>simp at d
  |succ j=>
   cases b with
   |zero=>simp at e
   |succ b=>rw[KA (l:=l) (by simpa using h) j b i (by simpa using d) (by simpa using e)]
 |some a::l,h,j,b,i,d,e=>by
  simp only[Z1,id,iZ,aM,it]at h;have c:∀k:O,l[k]?=γ (γ a)->jc:=λk f=>by have d:=h.1;simp at d;exact d (g8 f)
  cases j with
  |zero=>
   simp at d;subst d;cases b with
   |zero=>rfl
   |succ b=>exact(c b (by simpa using e)).elim
  |succ j=>
   cases b with
   |zero=>simp at e;subst e;exact(c j (by simpa using d)).elim
   |succ b=>rw[KA (l:=l) h.2 j b i (by simpa using d) (by simpa using e)]
def Lo:∀{mds:E Md}{sas:E SA}{j:O}{b:AB},(bK mds sas)[j]?=γ b->b.wr=ε->n5 mds=ε
 |[],sas,j,b,h,_=>by cases sas<;>simp[bK]at h
 | .wr _ _::a,_,j,b,_,_=>rfl
 | .val::a,[],j,b,h,_=>by simp[bK]at h
 | .rd _ _::a,[],j,b,h,_=>by simp[bK]at h
 | .val::a,.v _::r,j,b,h,c=>by simp only[bK]at h;exact Lo (mds:=a) h c
 | .val::a,.row _ _::r,j,b,h,c=>by simp[bK]at h
 | .val::a,.own _ _ _::r,j,b,h,c=>by simp[bK]at h
 | .rd _ _::a,.v _::r,j,b,h,c=>by simp[bK]at h
 | .rd _ _::a,.own _ _ _::r,j,b,h,c=>by simp[bK]at h
 | .rd s t::a,.row m g::r,j,b,h,c=>by
  simp only[bK]at h;cases j with
  |zero=>simp at h;subst h;simp[AB.wr]at c
  |succ j=>exact Lo (mds:=a) (j:=j) (by simpa using h) c
def QX:∀{mds:E Md}{sas:E SA}{ps:E (O->E τ)}{j:O}{cs:E AV}{t:ae},(bI mds sas ps)[j]?=γ (.cells cs t)->jc:=by
 intro mds;induction mds with
 |nil=>intro sas ps j cs t h;cases sas<;>simp[bI]at h
 |cons d b a=>
  intro sas ps j cs t h;cases d<;>cases sas with
  |nil=>simp[bI]at h
  |cons x r=>
   cases x<;>first
    |(simp[bI]at h;done)
    |(simp only[bI]at h;exact a h)
    |(simp only[bI]at h;cases j with
      |zero=>simp at h
      |succ j=>exact a (by simpa using h))
    |(cases ps with
      |nil=>simp[bI]at h
      |cons p ps=>
       simp only[bI]at h;cases j with
       |zero=>simp at h
       |succ j=>exact a (by simpa using h))
def hP(Q:Ex->E AV->E AB->Prop)(M:O->Prop)(ν:Nu)(w:υ):Ending->υ->Prop:=
 λe d=>∃v f c a,e=.returned v/\Q .ret [f] c/\VR a f v/\RH M a (λb=>c.getD b .gone) d/\Fr M w d/\Le ν a/\∀i b,a i=γ b->i<c.length
def nk{P:aF}(hent:Enters P){f:bq}{fn:cA}{mds:E Md}{a:E SA->χ FR}(hf:P.funcs[f]?=γ fn)(x:fn.body.isSome=ε)(h:∀sas u,a sas=γ u->aJ u.ap=ε->∃H0,ab (bK mds sas) H0/\∀(M:O->Prop)(vals:E τ)(w:υ)(ν:Nu),(∀k,w.heap.size<=k->M k)->ax ν (hZ 0 mds sas) vals->RH M ν (λb=>H0.getD b .gone) w->(∀i b,ν i=γ b->i<H0.length)->aH P f vals.toArray w (hP (dV (bI mds sas u.put) u) M ν w)):au P f (am mds a):=by
 refine⟨λargs w=>hent f fn hf x args w,λavs H y δ ν vals w hS ho hv hr hlt hfree hsep htab=>?_⟩;unfold am at hS;split at hS
 ·rename_i xs hxs
  split at hS
  ·rename_i u hF
   split at hS
   ·rename_i av hav
    cases hc:((!n5 mds||iZ ((d_ mds xs).filterMap id))&&u.new.all lh&&ai (bI mds (xs.map (·.sa)) u.put).length (bK mds (xs.map (·.sa))).length)with
    |false=>rw[hc]at hS;cases hS
    |true=>
     rw[hc]at hS;simp only[aZ,ar]at hS;subst hS;simp only[aM]at hc;obtain⟨⟨hc1,hc2⟩,hc3⟩:=hc;have B:=ci hc3;have ho':aJ (xs.flatMap (·.ob))=ε/\aJ u.ap=ε:=by simpa[aJ,gC]using ho
     obtain⟨L,A⟩:=EB (w:=w) hxs ho'.1 hv hr hlt;generalize xs.map (·.sa)=sas at*;obtain⟨H0,hs0,hcalls⟩:=h sas u hF ho'.2
     --the callee's own numbers
     let p:Nu:=λj=>(L[j]?).join
     have hall:=A.all 0 p (λj _=>by simp[p]);have I:∀j b,p j=γ b->L[j]?=γ (γ b):=by
      intro j b x;simp only[p]at x;cases D:L[j]?with
      |none=>rw[D]at x;cases x
      |some o=>rw[D]at x;simp at x;rw[x]
     have νlt:∀j b,p j=γ b->j<(bK mds sas).length:=λj b x=>by rw[<-A.len];exact(eV.1 (I j b x)).1
     let M:O->Prop:=λk=>w.heap.size<=k\/∃j b c,p j=γ b/\(bK mds sas)[j]?=γ c/\c.wr=ε/\b.n=k
     have U:∀j,(bK mds sas).getD j .gone=((bK mds sas)[j]?).getD .gone:=λj=>by rw[cq]
     have putw:∀(i:O) c,(bK mds sas)[i]?=γ c->c.wr=ε->∃n s g t,(bI mds sas u.put)[i]?=γ (.row ε n s g t):=by
      intro i c hi N;have:i<(bI mds sas u.put).length:=by rw[B];exact(eV.1 hi).1
      obtain⟨cc,d⟩:∃cc,(bI mds sas u.put)[i]?=γ cc:=⟨_,cV this⟩;have hccw:=(wS hi d).1;rw[N]at hccw;cases cc with
      |row rw n s g t=>simp[AB.wr]at hccw;subst hccw;exact⟨n,s,g,t,d⟩
      |cells cs t=>exact(QX d).elim
      |gone=>simp[AB.wr]at hccw
     have hsepc:∀i j b b',i≠j->((bK mds sas).getD i .gone).wr=ε->((bK mds sas).getD j .gone).live=ε->p i=γ b->p j=γ b'->b.n≠b'.n:=by
      intro i j b b' hne N hl hbi W;rw[U]at N hl;cases hi:(bK mds sas)[i]?with
      |none=>rw[hi]at N;cases N
      |some c=>
       rw[hi]at N;simp only[g9]at N;cases D:(bK mds sas)[j]?with
       |none=>rw[D]at hl;cases hl
       |some c'=>
        obtain⟨i1,b1,f1,f2,f3,_,_,f5⟩:=A.back i b (I _ _ hbi);obtain⟨j1,b2,g1,g2,g3,_,g4,g5⟩:=A.back j b' (I _ _ W);obtain⟨rfl,hwr⟩:=f5 c hi N;have hij:i1≠j1:=by rintro rfl;have hw':n5 mds=ε:=Lo hi N;rw[hw']at hc1;exact hne (KA (by simpa using hc1) i j i1 f1 g1)
        rw[<-g3];obtain⟨n',s',g',t',d⟩:=putw i c hi N;exact hsep i1 _ j1 b b2 (GL f1 d) (afa g1) hij g4 f2 g2
     have hRH:RH M p (λb=>(bK mds sas).getD b .gone) w:=by
      refine⟨λj=>?_,hsepc,?_,?_,htab.mono ?_⟩
      ·simp only[U]
       cases D:(bK mds sas)[j]?with
       |none=>trivial
       |some b=>have:=hall.2 j b D;simpa using this
      ·intro j b N W
       simp only[U]at N;cases D:(bK mds sas)[j]?with
       |none=>rw[D]at N;cases N
       |some c=>rw[D]at N;exact .inr ⟨j,b,c,W,D,N,rfl⟩
      ·intro j b W
       obtain⟨_,_,_,_,_,f4,_⟩:=A.back j b (I _ _ W);exact f4
      ·rintro k _ (hk|⟨j,b,c,W,D,N,rfl⟩)
       ·exact .inl hk
       ·obtain⟨i1,b1,f1,f2,f3,_,_,f5⟩:=A.back j b (I _ _ W)
        obtain⟨rfl,hwr⟩:=f5 c D N;obtain⟨n',s',g',t',d⟩:=putw j c D N;exact .inr ⟨i1,_,_,GL f1 d,f2,f3.symm⟩
     refine(hcalls M _ w p (λk hk=>.inl hk) hall.1 (hRH.ii hs0) (λj b x=>by rw[<-hs0.length];exact νlt j b x)).mono ?_;rintro e w' ⟨v,av',H',ν',rfl,⟨av2,jF,hl,hsim⟩,hvr,Q,hfr,hle,hdm⟩;simp only[lA,aa]at hl;subst hl;have Q:=Q.ii hsim;rw[B]at jF;have hgetP:∀j,j<(bK mds sas).length->(bI mds sas u.put++u.new).getD j .gone=((bI mds sas u.put)[j]?).getD .gone:=λj D=>by rw[cq,km (by rw[B];exact D)]
     have C:∀q,(bI mds sas u.put++u.new).getD ((bK mds sas).length+q) .gone=(u.new[q]?).getD .gone:=λq=>by rw[cq,pz (by rw[B];omega),B,DH]
     --new blocks have numbers of their own,and lie in new memory
     have hnew:∀q b,u.new[q]?=γ b->∃k,ν' ((bK mds sas).length+q)=γ k/\w.heap.size<=k.n/\k.n<w'.heap.size:=by
      intro q b R;have G:lh b=ε:=bX.1 hc2 b (g8 R);have hbw:b.wr=ε:=by
       cases b with
       |row rw=>cases rw<;>simp[lh]at G⊢ <;>rfl
       |_=>simp[lh]at G
      have S:=Q.br ((bK mds sas).length+q);simp only[C,R,g9]at S;have hk:∃k,ν' ((bK mds sas).length+q)=γ k:=by
       cases b with
       |row rw n s g t=>
        rcases S with⟨r,_,_⟩|⟨k,_,_,_,r,_⟩
        ·subst r;simp[lh]at G
        ·exact⟨k,r⟩
       |_=>simp[lh]at G
      obtain⟨k,hk⟩:=hk;refine⟨k,hk,?_,Q.lt _ k hk⟩;have hw2:((λb=>(bI mds sas u.put++u.new).getD b .gone) ((bK mds sas).length+q)).wr=ε:=by simp only[C,R,g9];exact hbw
      rcases Q.own _ k hw2 hk with r|⟨j,b',c,r,h2,h3,h4⟩
      ·exact r
      ·exfalso
       obtain⟨n',s',g',t',d⟩:=putw j c h2 h3;have D:=(eV.1 h2).1;refine Q.sep ((bK mds sas).length+q) j k b' (by omega) hw2 ?_ hk (hle _ _ r) h4.symm;simp only[hgetP j D,d,g9];rfl
     let X:Nu:=λi=>match ν i with
      |some b=>γ b
      |none=>if y<=i/\i<y+u.new.length then ν' ((bK mds sas).length+(i-y))else ζ
     have T:Le ν X:=λi b x=>by simp[X,x]
     have m:∀q,q<u.new.length->X (y+q)=ν' ((bK mds sas).length+q):=λq R=>by have h0:=hfree q R;simp only[X,h0];rw[aP (by omega),DH]
     have shift:∀q b,ν' ((bK mds sas).length+q)=γ b->X (y+q)=γ b:=by
      intro q b x;have R:q<u.new.length:=by have r:=hdm _ b x;rw[hsim.length,cv,B]at r;omega
      rw[m q R];exact x
     refine⟨v,X,rfl,T,?_,VR.shift shift jF hav hvr,?_,?_,hfr.os,hfr.tape,hfr.output,hfr.size,?_,?_,?_⟩
     ·intro i h0 r
      simp only[X,h0]at r;by_cases hi:y<=i/\i<y+u.new.length
      ·exact hi
      ·rw[bi hi]at r
       exact aO rfl r
     ·intro i c hc
      obtain⟨j,f1,f2,f3⟩:=yA (od hc);have D:j<(bK mds sas).length:=by rw[<-B];exact(eV.1 f2).1
      have S:=Q.br j;simp only[hgetP j D,f2,g9]at S;cases c with
      |row rw n s g t=>
       rcases S with⟨r,_,_⟩|⟨k,l,t',fz,r,h2⟩
       ·subst r;simp[AB.wr]at f3
       ·have hLj:∃o,L[j]?=γ o:=⟨_,cV (by rw[A.len];exact D)⟩
        obtain⟨o,ho⟩:=hLj;cases o with
        |none=>
         exfalso;obtain⟨cc,d⟩:∃cc,(bK mds sas)[j]?=γ cc:=⟨_,cV D⟩;have hbc:=hall.2 j cc d;have hmk:=wS d f2;have hnone:p (0+j)=ζ:=by simp[p,ho]
         cases cc with
         |row rw'=>
          rcases hbc with⟨h3,_,_⟩|⟨k',_,_,_,h3,_⟩
          ·subst h3
           have:=hmk.1;rw[f3]at this;simp[AB.wr]at this
          ·rw[hnone]at h3;cases h3
         |cells=>obtain⟨k',_,h3,_⟩:=hbc;rw[hnone]at h3;cases h3
         |gone=>have:=hmk.1;rw[f3]at this;simp[AB.wr]at this
        |some b0=>
         have hν0:p j=γ b0:=by simp[p,ho]
         obtain⟨i1,b1,g1,g2,g3,g4,g5,g6⟩:=A.back j b0 ho;rw[f1]at g1;cases g1;obtain⟨cc,d⟩:∃cc,(bK mds sas)[j]?=γ cc:=⟨_,cV D⟩;obtain⟨rfl,_⟩:=g6 cc d (by rw[<-(wS d f2).1];exact f3);rw[hle _ _ hν0]at r;cases r;exact .inr ⟨_,l,t',fz,T _ _ g2,h2⟩
      |cells cs t=>exact(QX f2).elim
      |gone=>simp[AB.wr]at f3
     ·intro q b R
      have hql:q<u.new.length:=(eV.1 R).1;have S:=Q.br ((bK mds sas).length+q);simp only[C,R,g9]at S;have G:lh b=ε:=bX.1 hc2 b (g8 R);cases b with
      |row rw n s g t=>
       rcases S with⟨r,_,_⟩|⟨k,l,t',fz,r,h2⟩
       ·subst r;simp[lh]at G
       ·exact .inr ⟨k,l,t',fz,by rw[m q hql];exact r,h2⟩
      |_=>simp[lh]at G
     ·intro k hk hne
      refine hfr.block k hk ?_;rintro(r|⟨j,b,c,r,h2,h3,h4⟩)
      ·omega
      ·obtain⟨i1,b1,f1,f2,f3,_,_,f5⟩:=A.back j b (I _ _ r)
       obtain⟨rfl,_⟩:=f5 c h2 h3;obtain⟨n',s',g',t',d⟩:=putw j c h2 h3;exact hne (i1,_) b (GL f1 d) f2 h4
     ·intro q b R x
      rw[m q R]at x;obtain⟨k,r,h2,h3⟩:=hnew q _ (cV R);rw[x]at r;cases r;exact⟨h3,.inl h2⟩
     ·intro q q' b b' hne R hq' x hb'
      rw[m q R]at x;rw[m q' hq']at hb';have G:∀(z:O)(b:AB),u.new[z]?=γ b->b.wr=ε/\b.live=ε:=by
       intro z b hz;have:=bX.1 hc2 b (g8 hz);cases b with
       |row rw=>cases rw<;>simp[lh]at this⊢ <;>exact⟨rfl,rfl⟩
       |_=>simp[lh]at this
      refine Q.sep ((bK mds sas).length+q) ((bK mds sas).length+q') b b' (by omega) ?_ ?_ x hb'
      ·simp only[C,cV R,g9]
       exact(G q _ (cV R)).1
      ·simp only[C,cV hq',g9]
       exact(G q' _ (cV hq')).2
   ·cases hS
  ·cases hS
 ·cases hS
def aok{P:aF}{Γ:aE}(i:aK P Γ)(g:P.follows .mixedOrders=ε)(b:Enters P){f:bq}{fn:cA}{Λ:O->χ Sum}{n:O}{mds:E Md}{a:E SA->χ FR}(j:P.funcs[f]?=γ fn)(k:fn.body.isSome=ε)(h:∀sas d,a sas=γ d->aJ d.ap=ε->∃e,ab (bK mds sas) e/\(∀c,fn.body=γ c->eK P e.length Λ c)/\(ad P Γ Λ n fn (hZ 0 mds sas) e (af e.length)).ok (dV (bI mds sas d.put) d)):au P f (am mds a):=
 nk b j k λsas d l m=>let⟨e,o,p,hex⟩:=h sas d l m;⟨e,o,λ_ _ _ _ hM q r s=>nS i g b j p hM hex q r s⟩
def W(n:Z):Z:=IntKind.i64.wrap n
def Es(x:Z):W x=(x+9223372036854775808)%18446744073709551616-9223372036854775808:=by exact IntKind.wrap_i64 x
def zj(x:Z):∃q,W x=x+18446744073709551616*q:=by refine⟨-((x+9223372036854775808)/18446744073709551616),?_⟩;simp only[Es];omega
def ov(x q:Z):W (x+18446744073709551616*q)=W x:=by simp only[Es];omega
def qz(x y:Z):W (W x+y)=W (x+y):=by obtain⟨q,h⟩:=zj x;rw[h,show x+18446744073709551616*q+y=x+y+18446744073709551616*q from by omega,ov]
def qA(x y:Z):W (x+W y)=W (x+y):=by rw[Int.add_comm,qz,Int.add_comm]
def YR(x y:Z):W (W x-y)=W (x-y):=by obtain⟨q,h⟩:=zj x;rw[h,show x+18446744073709551616*q-y=x-y+18446744073709551616*q from by omega,ov]
def Hg(x y:Z):W (x-W y)=W (x-y):=by obtain⟨q,h⟩:=zj y;rw[h,show x-(y+18446744073709551616*q)=x-y+18446744073709551616*(-q)from by omega,ov]
def YQ(x:Z):W (-W x)=W (-x):=by have:=Hg 0 x;simpa using this
def asz(x y:Z):W (W x*y)=W (x*y):=by obtain⟨q,h⟩:=zj x;rw[h,Int.add_mul,Int.mul_assoc,ov]
def asA(x y:Z):W (x*W y)=W (x*y):=by rw[ZK,asz,ZK]
def asy(x y z:Z):W (x+y*W z)=W (x+y*z):=by rw[<-qA,asA,qA]
def Oo(x:Z):W (W x)=W x:=by have:=qz x 0;simpa using this
def kL{x:Z}(a: -9223372036854775808<=x)(b:x<=9223372036854775807):W x=x:=by simp only[Es];omega
def nr(x:Z): -9223372036854775808<=W x/\W x<=9223372036854775807:=by simp only[Es];omega
def qp(a b:aQ):O->Z:=λk=>W (a k+b k)
def lW(a:aQ)(n:Z)(b:aQ):O->Z:=λk=>W (a k+n*b k)
def dm(a b:aQ):O->Z
 |0=>a 0*b 0
 |1=>a 0*b 1+a 1*b 0
 |2=>a 0*b 2+a 1*b 1+a 2*b 0
 |3=>a 0*b 3+a 1*b 2+a 2*b 1+a 3*b 0
 |4=>a 0*b 4+a 1*b 3+a 2*b 2+a 3*b 1+a 4*b 0
 |5=>a 0*b 5+a 1*b 4+a 2*b 3+a 3*b 2+a 4*b 1+a 5*b 0
 |6=>a 0*b 6+a 1*b 5+a 2*b 4+a 3*b 3+a 4*b 2+a 5*b 1+a 6*b 0
 |7=>a 0*b 7+a 1*b 6+a 2*b 5+a 3*b 4+a 4*b 3+a 5*b 2+a 6*b 1+a 7*b 0
 |8=>a 1*b 7+a 2*b 6+a 3*b 5+a 4*b 4+a 5*b 3+a 6*b 2+a 7*b 1
 |9=>a 2*b 7+a 3*b 6+a 4*b 5+a 5*b 4+a 6*b 3+a 7*b 2
 |10=>a 3*b 7+a 4*b 6+a 5*b 5+a 6*b 4+a 7*b 3
 |11=>a 4*b 7+a 5*b 6+a 6*b 5+a 7*b 4
 |12=>a 5*b 7+a 6*b 6+a 7*b 5
 |13=>a 6*b 7+a 7*b 6
 |14=>a 7*b 7
 |_=>0
def bE(a b:aQ):O->Z
 |0=>dm a b 0-dm a b 8-dm a b 12
 |1=>dm a b 1-dm a b 9-dm a b 13
 |2=>dm a b 2-dm a b 10-dm a b 14
 |3=>dm a b 3-dm a b 11
 |4=>dm a b 4+dm a b 8
 |5=>dm a b 5+dm a b 9
 |6=>dm a b 6+dm a b 10
 |7=>dm a b 7+dm a b 11
 |_=>0
def ep(a b:aQ):O->Z:=λk=>W (bE a b k)
def vc(a:aQ):O->Z
 |0=>a 0+a 4
 |1=>a 3
 |2=>a 2
 |3=>a 1
 |4=> -a 4
 |5=> -a 3-a 7
 |6=> -a 2-a 6
 |7=> -a 1-a 5
 |_=>0
def jl(a:aQ):O->Z:=λk=>W (vc a k)
def Gb(c:aQ):O->Z
 |0=>2*c 2+4*c 6
 |1=> -c 1+2*c 3+c 5+c 7
 |2=>2*c 4
 |3=>c 1+c 5+c 7
 |_=>0
def p8(c:aQ):O->Z:=λk=>W (Gb c k)
def fK(a:aQ):O->Z
 |0=>W (0-a 7)
 |4=>W (a 3+a 7)
 |k+1=>a k
def gA(a:aQ):O->O->Z
 |0=>a
 |n+1=>fK (gA a n)
@[reducible] def vZ:O->Z:=λ_=>0
def Ck:O->Z
 |0=>1
 |_+1=>0
def b8(t:O):O->Z:=gA Ck t
def Oe(a b:aQ):O->O->Z
 |0=>vZ
 |k+1=>lW (Oe a b k) (a k) (gA b k)
def Of(a b:aQ):O->Z:=Oe a b 8
def Mm(a:aQ):O->O->Z
 |0=>vZ
 |k+1=>lW (Mm a k) (a k) (b8 ((24-k)%24))
def Mn(a:aQ):O->Z:=Mm a 8
def lf{p:O->Prop}(a:p 0)(b:p 1)(c:p 2)(d:p 3)(e:p 4)(f:p 5)(g:p 6)(h:p 7):∀k,k<8->p k:=by
 intro k i
 match k,i with
 |0,_=>exact a
 |1,_=>exact b
 |2,_=>exact c
 |3,_=>exact d
 |4,_=>exact e
 |5,_=>exact f
 |6,_=>exact g
 |7,_=>exact h
def afy{p:O->Prop}{n:O}(h:∀j,j<n->p j)(b:p n):∀j,j<n+1->p j:=by
 intro j c;rcases Nat.lt_succ_iff_lt_or_eq.1 c with a|a
 ·exact h j a
 ·subst a;exact b
def afz{p:O->Prop}:∀j,j<0->p j:=λj a=>aO a (cN j)
def apJ(a b:aQ):∀k,k<8->Of a b k=ep a b k:=by
 refine lf ?_ ?_ ?_ ?_ ?_ ?_ ?_ ?_<;>
  (simp only[Of,Oe,gA,lW,fK,vZ,ep,bE,dm,qz,qA,asy,Int.zero_sub,YQ]
   congr 1
   grind)
def ant:b8 0 0=1/\b8 0 1=0/\b8 0 2=0/\b8 0 3=0/\b8 0 4=0/\b8 0 5=0/\b8 0 6=0/\b8 0 7=0:=by decide+kernel
def anu:b8 17 0=0/\b8 17 1=0/\b8 17 2=0/\b8 17 3=0/\b8 17 4=0/\b8 17 5= -1/\b8 17 6=0/\b8 17 7=0:=by decide+kernel
def anv:b8 18 0=0/\b8 18 1=0/\b8 18 2=0/\b8 18 3=0/\b8 18 4=0/\b8 18 5=0/\b8 18 6= -1/\b8 18 7=0:=by decide+kernel
def anw:b8 19 0=0/\b8 19 1=0/\b8 19 2=0/\b8 19 3=0/\b8 19 4=0/\b8 19 5=0/\b8 19 6=0/\b8 19 7= -1:=by decide+kernel
def anz:b8 20 0=1/\b8 20 1=0/\b8 20 2=0/\b8 20 3=0/\b8 20 4= -1/\b8 20 5=0/\b8 20 6=0/\b8 20 7=0:=by decide+kernel
def anA:b8 21 0=0/\b8 21 1=1/\b8 21 2=0/\b8 21 3=0/\b8 21 4=0/\b8 21 5= -1/\b8 21 6=0/\b8 21 7=0:=by decide+kernel
def anB:b8 22 0=0/\b8 22 1=0/\b8 22 2=1/\b8 22 3=0/\b8 22 4=0/\b8 22 5=0/\b8 22 6= -1/\b8 22 7=0:=by decide+kernel
def anC:b8 23 0=0/\b8 23 1=0/\b8 23 2=0/\b8 23 3=1/\b8 23 4=0/\b8 23 5=0/\b8 23 6=0/\b8 23 7= -1:=by decide+kernel
def aiN(a:aQ):∀k,k<8->Mn a k=jl a k:=by
 refine lf ?_ ?_ ?_ ?_ ?_ ?_ ?_ ?_<;>
  (simp only[Mn,Mm,Nat.reduceSub,Nat.reduceMod,lW,vZ,jl,vc,qz,ant,anu,anv,anw,anz,anA,anB,anC]
   congr 1
   omega)
def EO:O->O->Z
 |0,0=>4
 |1,1=>1
 |1,3=>1
 |2,2=>2
 |3,1=>2
 |4,0=>2
 |5,1=> -1
 |5,3=>1
 |7,1=>1
 |7,3=> -1
 |8,0=> -2
 |9,1=> -2
 |10,2=> -2
 |11,1=> -1
 |11,3=> -1
 |12,0=> -4
 |13,1=> -1
 |13,3=> -1
 |14,2=> -2
 |15,1=> -2
 |16,0=> -2
 |17,1=>1
 |17,3=> -1
 |19,1=> -1
 |19,3=>1
 |20,0=>2
 |21,1=>2
 |22,2=>2
 |23,1=>1
 |23,3=>1
 |_,_=>0
def Ga(a:aQ):O->O->Z
 |0=>vZ
 |k+1=>λj=>W (Ga a k j+W (a k*EO ((k+18)%24) j))
def SD{p:O->Prop}(a:p 0)(b:p 1)(c:p 2)(d:p 3):∀k,k<4->p k:=by
 intro k e
 match k,e with
 |0,_=>exact a
 |1,_=>exact b
 |2,_=>exact c
 |3,_=>exact d
def agF(a:aQ):∀j,j<4->Ga a 8 j=p8 a j:=by
 refine SD ?_ ?_ ?_ ?_<;>
  (simp only[Ga,Nat.reduceAdd,Nat.reduceMod,EO,vZ,p8,Gb,qz,qA]
   congr 1
   omega)
def aD(n a b:Z):κ:=ο (a<=n)&&ο (n<=b)
def b9{n a b:Z}:aD n a b=ε↔a<=n/\n<=b:=by simp[aD]
def pn(a:aQ)(b c:Z):κ:=
 bif !aD (a 0) b c then η else bif !aD (a 1) b c then η else bif !aD (a 2) b c then η else bif !aD (a 3) b c then η else
 bif !aD (a 4) b c then η else bif !aD (a 5) b c then η else bif !aD (a 6) b c then η else bif !aD (a 7) b c then η else ε
def vG{a:O->Z}{e f:Z}:pn a e f=ε↔∀k,k<8->e<=a k/\a k<=f:=by
 constructor
 ·intro h
  have d:∀(b:κ)(c:κ),(bif !b then η else c)=ε->b=ε/\c=ε:=by intro b c;cases b<;>simp
  unfold pn at h;obtain⟨g,h⟩:=d _ _ h;obtain⟨i,h⟩:=d _ _ h;obtain⟨j,h⟩:=d _ _ h;obtain⟨l,h⟩:=d _ _ h;obtain⟨m,h⟩:=d _ _ h;obtain⟨n,h⟩:=d _ _ h;obtain⟨o,h⟩:=d _ _ h;obtain⟨p,h⟩:=d _ _ h;exact lf (b9.1 g) (b9.1 i) (b9.1 j) (b9.1 l) (b9.1 m) (b9.1 n) (b9.1 o) (b9.1 p)
 ·intro h
  simp[pn,b9.2 (h 0 (by decide)),b9.2 (h 1 (by decide)),b9.2 (h 2 (by decide)),b9.2 (h 3 (by decide)),b9.2 (h 4 (by decide)),b9.2 (h 5 (by decide)),b9.2 (h 6 (by decide)),b9.2 (h 7 (by decide))]
def aeC{n:Z}(a: -9223372036854775808<=n)(b:n<=9223372036854775807):(W (n.tmod 24+24)).tmod 24=n%24:=by
 have h:n.tmod 24=n%24\/n.tmod 24=n%24-24:=by
  rcases ZJ 0 n with h|h
  ·left;exact v_ h
  ·have c:n.tmod 24= -((-n)%24):=by rw[<-Int.neg_neg n,Int.neg_tmod,v_ (by omega)];simp
   omega
 rw[kL (by omega) (by omega),v_ (by omega)];omega
def aiQ{n:Z}:(bif ο (n.tmod 24<0)then W (n.tmod 24+24)else n.tmod 24)=n%24:=by
 have h:(n.tmod 24=n%24/\0<=n)\/(n.tmod 24= -((-n)%24)/\n<=0):=by
  rcases ZJ 0 n with h|h
  ·left;exact⟨v_ h,h⟩
  ·right
   refine⟨?_,h⟩;rw[<-Int.neg_neg n,Int.neg_tmod,v_ (by omega)];simp
 by_cases a:n.tmod 24<0
 ·rw[bA a,aZ,kL (by omega) (by omega)]
  omega
 ·rw[eJ a,a_]
  omega
def v8(a b c d e f g h:Z):O->Z
 |0=>a
 |1=>b
 |2=>c
 |3=>d
 |4=>e
 |5=>f
 |6=>g
 |7=>h
 |_=>0
abbrev w8(f:aQ):O->Z:=v8 (f 0) (f 1) (f 2) (f 3) (f 4) (f 5) (f 6) (f 7)
def v4(a b c d:Z):O->Z
 |0=>a
 |1=>b
 |2=>c
 |3=>d
 |_=>0
def mixed:θ.follows .mixedOrders=ε:=by kernel_rfl
def ai0:θ.funcs.toList.all (λfn=> !(fn.name== "runtime.NumGoroutine"))=ε:=by kernel_rfl
def enters:Enters θ:=by
 intro g fn b d args w;have f:(fn.name== "runtime.NumGoroutine")=η:=by
  have:=bX.1 ai0 fn (by have:=(cm.1 b);obtain⟨h,e⟩:=this;rw[<-e];simp)
  simpa using this
 obtain⟨c,i⟩:=r9.1 d;have a:¬fn.name= "runtime.NumGoroutine" :=by simpa using f
 simp[g_,b,a,i]
def g0:aE:=λ_=>ζ
def bt:aK θ g0:=λ_ _ h=>by cases h
structure Good (r:ao) (x:τ):Prop where
 out:r.ok (nO x)
def en{Γ:aE}(b:aK θ Γ){n:O}{f:bq}{fn:cA}(c:θ.funcs[f]?=γ fn)(d:fn.body.isSome=ε){a:E τ->χ (τ×E κ)}(h:∀vs x ob,a vs=γ (x,ob)->aJ ob=ε->Good (ad θ Γ K n fn (vs.map .v) [] ed) x):au θ f (aS a):=
 nl (λargs w=>enters f fn c d args w) λvs x ob e g w i=>Ru b mixed enters c (h vs x ob e g).out w i
abbrev ι(n:Z):τ:=.int .i64 n
abbrev vI(x:Z):AV:=.v (.int .i64 x)
abbrev rO(l:E AV)(H:E AB):ao:=.out .ret l H
abbrev vB(b:κ):AV:=.v (.bool b)
abbrev dn(a:aQ):τ:=.agg #[.int .i64 (a 0),.int .i64 (a 1),.int .i64 (a 2),.int .i64 (a 3),.int .i64 (a 4),.int .i64 (a 5),.int .i64 (a 6),.int .i64 (a 7)]
abbrev gX(s:aQ):τ:=.agg #[.int .i64 (s 0),.int .i64 (s 1),.int .i64 (s 2),.int .i64 (s 3)]
def o4(r:ao):χ τ:=match r with| .out _ [v] _=>v.ip|_=>ζ
def one{r:ao}{x:τ}(h:o4 r=γ x):Good r x:=by
 constructor;unfold o4 at h;split at h
 ·exact⟨_,rfl,h⟩
 ·cases h
def yk(r:ao):χ τ:=o4 r
def sT{r:ao}{x:τ}(h:yk r=γ x):Good r x:=one h
def vp(b:κ)(r s:ao):yk (cond b r s)=cond b (yk r) (yk s):=by cases b<;>rfl
def tg(x:τ):yk (rv x)=γ x:=rfl
def Al{α:Type}(b:κ)(x y:α):cond b (γ x) (γ y)=γ (cond b x y):=by cases b<;>rfl
def JT(b x y:κ):cond b (aaO x) (aaO y)=aaO (cond b x y):=by cases b<;>rfl
def RF(b:κ)(k:IntKind)(x y:Z):cond b (jf k x) (jf k y)=jf k (cond b x y):=by cases b<;>rfl
def xd{f g:O->Z}(h:∀k,k<8->f k=g k):dn f=dn g:=by rw[dn,h 0 (by decide),h 1 (by decide),h 2 (by decide),h 3 (by decide),h 4 (by decide),h 5 (by decide),h 6 (by decide),h 7 (by decide)]
def Xx{f g:O->Z}(h:∀k,k<4->f k=g k):gX f=gX g:=by rw[gX,h 0 (by decide),h 1 (by decide),h 2 (by decide),h 3 (by decide)]
def Cd{a b:κ}(h:aJ [a,b]=ε):a=ε/\b=ε:=by simpa[aJ]using h
def cx(a b c:E O):Ex->E O
 | .normal=>a
 | .exit _=>b
 | .ret=>c
def bJ(id:O)(S:Sum):O->χ Sum:=λj=>bif ai j id then γ S else ζ
def a4(id:O)(fn:cA):a9:=match nU id (fn.body.getD .skip)with
 | .block _ (.loop c)::_=>c
 |_=>.skip
def cz{P:aF}{m0 id:O}{fn:cA}{S:Sum}{c:a9}(h:nU id (fn.body.getD .skip)=[.block id (.loop c)])(i:cp P m0 (.block id (.loop c)) S):∀f,fn.body=γ f->eK P m0 (bJ id S) f:=by
 intro f g j k d b e;unfold bJ at d;cases a:ai j id with
 |false=>rw[a]at d;cases d
 |true=>rw[a]at d;cases d;rw[ci a]at e;rw[g]at h;simp only[g9]at h;rw[h]at e;simp at e;subst e;exact i
structure aC (r:ao) (Q:Ex->E AV->E AB->Prop):Prop where
 out:r.ok Q
def ay{Q:Ex->E AV->E AB->Prop}{b:κ}{r s:ao}(a:b=ε->aC r Q)(c:b=η->aC s Q):aC (cond b r s) Q:=by
 cases b
 ·exact c rfl
 ·exact a rfl
def eS{Q:Ex->E AV->E AB->Prop}{b:κ}{r s:ao}(a:b=ε)(h:aC r Q):aC (cond b r s) Q:=by subst a;exact h
def cL{Q:Ex->E AV->E AB->Prop}{b:κ}{r s:ao}(a:b=η)(h:aC s Q):aC (cond b r s) Q:=by subst a;exact h
def Φ{Q:Ex->E AV->E AB->Prop}{e:Ex}{T:E AV}{H:E AB}(h:Q e T H):aC (.out e T H) Q:=⟨h⟩
def Mo{Γ:aE}(e:aK θ Γ){f:bq}{fn:cA}{Λ:O->χ Sum}{n:O}{mds:E Md}{a:E SA->χ FR}(g:θ.funcs[f]?=γ fn)(i:fn.body.isSome=ε)(h:∀sas b,a sas=γ b->aJ b.ap=ε->∃d,ab (bK mds sas) d/\(∀c,fn.body=γ c->eK θ d.length Λ c)/\aC (ad θ Γ Λ n fn (hZ 0 mds sas) d (af d.length)) (dV (bI mds sas b.put) b)):au θ f (am mds a):=
 aok e mixed enters g i λsas b j k=>let⟨d,l,m,o⟩:=h sas b j k;⟨d,l,m,o.out⟩
def dq(m0:O){fn:cA}:∀c,fn.body=γ c->eK θ m0 K c:=λc _=>cT _ _ c
def OD{α:Type}(f:O->α):∀l:E O,l.zip (l.map f)=l.map λi=>(i,f i)
 |[]=>rfl
 |a::l=>by simp[OD f l]
def rz{σ:Type}(N:O)(live:E O)(b:E AV->E AB->χ σ)(c:σ->E κ)(out:σ->dx->ao):Sum:=λT H a=>
 cond (ai T.length N) (match b (live.map λi=>T.getD i .dead) H with
  |some s=>Ω (c s) (out s a)
  |none=>.err) .err
def CB{Q b:Ex->E AV->E AB->Prop}(h:∀e T H,Q e T H->b e T H):∀{r:ao},r.ok Q->r.ok b
 | .err,a=>a
 | .out e T H,a=>h e T H a
def Vj{Γ:aE}(q:aK θ Γ){id n m m0 N:O}{c:a9}{lv:Ex->E O}{Λ:O->χ Sum}{σ:Type}{k:E AV->E AB->χ σ}{d:σ->E κ}{out:σ->dx->ao}(l:σ->O->E (O×AV))(o:σ->O->E AB)(qn:σ->O->Prop)(len:σ->O)(v:mB (lv .normal)=ε)(r:eK θ m0 Λ c)(w:m0<=m)(x:∀avs H p,k avs H=γ p->aJ (d p)=ε->∃H1,Ow m (aw 0 N ((lv .normal).zip avs)) H=γ (aw 0 N (l p 0),H1)/\ab H1 (o p 0)/\qn p 0)(h:∀p a Q,aJ (d p)=ε->(out p a).ok Q->∀i,qn p i->i<=len p->aC (a0 θ Γ n Λ c (aw 0 N (l p i)) (o p i) (eH lv m)) λe T' H'=>match e with
       | .normal=>i<len p/\T'=aw 0 N (l p (i+1))/\ab H' (o p (i+1))/\qn p (i+1)
       | .exit j=>∃b,ab H' b/\if j=id then(a .normal T' b).ok Q else(a (.exit j) T' b).ok Q
       | .ret=>∃b,ab H' b/\(a .ret T' b).ok Q):cp θ m0 (.block id (.loop c)) (rz N (lv .normal) k d out):=by
 refine api q mixed enters (lv:=lv) (Λ:=Λ) (n:=n) r w λT H a Q f=>?_
 unfold rz at f;cases s:ai T.length N with
 |false=>rw[s]at f;exact f.elim
 |true=>
  rw[s,aZ]at f;split at f
  ·rename_i p y
   obtain⟨t,z⟩:=vf f;obtain⟨H1,A,B,C⟩:=x _ _ _ y t;refine⟨O,λi=>(aw 0 N (l p i),o p i),λi=>qn p i/\i<=len p,λi=>len p-i,0,⟨C,eF _⟩,⟨H1,?_,B⟩,λi u=>?_⟩
   ·rw[asH v (ci s),<-A]
    congr 2
    exact(OD _ _).symm
   ·have:=(h p a Q t z i u.1 u.2).out
    refine CB (λe T' H' g=>?_) this;cases e with
    |normal=>exact⟨i+1,⟨g.2.2.2,g.1⟩,g.2.1,g.2.2.1,by have:=g.1;simp only;omega⟩
    |exit j=>exact g
    |ret=>exact g
  ·exact f.elim
def F{b:κ}{bs:E κ}:aJ (b::bs)=ε↔b=ε/\aJ bs=ε:=by simp[aJ]
def h_(n:O):ai n n=ε:=l5 n
def ah:aJ []=ε:=rfl
def ag{Q:Ex->E AV->E AB->Prop}{bs:E κ}{r:ao}(h:aJ bs=ε)(k:aC r Q):aC (Ω bs r) Q:=by
 induction bs with
 |nil=>exact k
 |cons b bs a=>rw[F]at h;rw[h.1]at*;exact⟨(a h.2).out⟩
def intOf:τ->Z
 | .int .i64 x=>x
 |_=>0
abbrev pj(a:aQ):O->E τ:=λj=>[ι (a j)]
section
def own:ownKnob θ.godebug=ζ:=by kernel_rfl
def laidOut:laidOutB θ=ε:=by kernel_rfl
def Ep:Ex->E AV->E AB->Prop:=λ_ l _=>l=[.v (.bool ε)]
section
variable {H:Type} {enc:ae×τ->H} {P:aF}
def al1{f:cA}{s:ChangeSpec}{c n d o:κ}{W q:υ}{args:aU τ}{v:τ}{u w:E (DataW H)}{a pa pv:E MemPlace}(A:Zy enc P f.params.toList s.vars c W args.toList u w a)(k:∀(b:O)(sp:O->κ)(D:κ),Zx enc P q b sp D f.resultTypes.toList (v.resultList f.resultTypes.size) (s.fn H (u++w)).results [])(e:∀sp:O->κ,(∀p∈a,sp p.block=ε)->Zx enc P q 0 sp ε f.params.toList args.toList (s.fn H (u++w)).args pa)(g:∀sp:O->κ,(∀p∈a,sp p.block=ε)->DataW.TrodVars enc P q sp s.vars (s.fn H (u++w)).vars pv)(i:a=pa++pv)(C:Below W.heap.size W q)(B:∀(j:O)(t:ae)(r:τ),f.resultTypes[j]?=γ t->(v.resultList f.resultTypes.size)[j]?=γ r->aaP P q .any 0 t r):s.post enc P f c n d o W args v q:=by
 have x:∀p∈a,p.block<W.heap.size:=λp h=>A.lt p h
 have l:∀p∈a,(λb=>ο (b<W.heap.size)) p.block=ε:=λp h=>by simpa using x p h
 refine⟨u,w,a,[],pa,pv,A,k _ _ _,e _ l,g _ l,World.keptBut_mono (λp h=>⟨h,?_⟩) (C.frame (· ∈a)),λ_=>?_⟩
 ·rw[i,nD]at h
  exact Or.inr h
 ·obtain⟨_,_,_,_,_,G,L⟩:=A
  refine⟨B,_,_,([]++pa)++pv,⟨[]++pa,pv,trodAll_append (e _ (λ_ _=>rfl)) (k _ _ _),g _ (λ_ _=>rfl),rfl,?_,?_⟩,?_⟩
  ·intro b y h
   have z:MemPlace.cell b y∈a:=by rw[i];simpa using h
   rw[C.frozen (x _ z)];exact G b y z
  ·intro M
   have:=L M;rw[i]at this;simpa using this
  ·intro p h _
   rw[i];simpa using h
end
def atk{Γ:aE}(j:aK θ Γ){Λ:O->χ Sum}{n:O}{f:bq}{fn:cA}{avs:E AV}{H:E AB}{ν:Nu}{vals:E τ}{w:υ}(o:θ.funcs[f]?=γ fn)(p:∀c,fn.body=γ c->eK θ H.length Λ c)(h:aC (ad θ Γ Λ n fn avs H (af H.length)) Ep)(q:ax ν avs vals)(r:RH (λk=>w.heap.size<=k) ν (λb=>H.getD b .gone) w)(d:∀i b,ν i=γ b->i<H.length):aH θ f vals.toArray w λe w'=>e=.returned (.bool ε)/\Below w.heap.size w w':=by refine(nS j mixed enters o p (λk l=>l) h.out q r d).mono ?_;rintro e w' ⟨v,s,x,t,rfl,u,g,_,a,_⟩;have:[s]=[vB ε]:=u;simp only[lA,aa]at this;subst this;simp only[VR]at g;subst g;exact⟨rfl,⟨a.os,a.tape,a.output,a.size,λk l=>a.block k l (by omega)⟩⟩
def qn(f:aQ):Prop:=∀k,-9223372036854775808<=f k/\f k<=9223372036854775807
end
def adt{f:bq}{fn:cA}{spec:ChangeSpec}(hf:θ.funcs[f]?=γ fn)(N:fn.params= #[9])(P:fn.resultTypes= #[4])(g:spec.vars=[])(a:∀(H:Type)(d:DataW H),spec.fn H [d]={results:=[.lit (.bool ε)],args:=[d]})(B:∀s:ρ,∃Γ,aK θ Γ/\aC (ad θ Γ K 100 fn [.v (.string s)] [] (af 0)) Ep)(H:Type)(enc:ae×τ->H)(W:υ)(base:O)(args:aU τ)(Q gs:E (DataW H))(l:E MemPlace)(m:∀(j:O) t v,fn.params[j]?=γ t->args[j]?=γ v->aaP θ W .any base t v)(R:Zy enc θ fn.params.toList spec.vars η W args.toList Q gs l)(u:aY (λk=>W.heap.size<=k) W):aH θ f args W λe S=>∃v,e=.returned v/\spec.post enc θ fn η ε η η W args v S:=by
 have y:=R;obtain⟨p,q,z,T,rfl,hfz,hnd⟩:=R;have C:Zx enc θ W 0 (λ_=>ε) ε fn.params.toList args.toList Q p:=z;rw[N]at C m;rw[g]at T;obtain⟨U,vs0,d0,ds0,X,q0,D,rfl,rfl,h0,r0⟩:=trodAll_cons C;obtain⟨rfl,rfl,rfl⟩:=trodAll_nil r0;obtain rfl:args= #[U]:=by cases args;simp_all
 obtain⟨rfl,rfl⟩:=trodVars_none T;clear z C r0;obtain⟨s,rfl,_,_,_⟩:=Go.ChangeMaps.open_string underlying9 (m 0 9 U rfl rfl) h0;obtain⟨Γ,G,o⟩:=B s;have I:RH (λk=>W.heap.size<=k) (λ_=>ζ) (λb=>([]:E AB).getD b .gone) W:=⟨λi=>trivial,λi j b b' _ h=>by simp[AB.wr]at h,λi b h=>by simp[AB.wr]at h,(λi b h=>by cases h),u⟩;have r:=atk G (n:=100) (vals:=[.string s]) (w:=W) hf (Λ:=K) (H:=[]) (λc _=>cT _ _ _) o (by simp only[ax,VR,aa]) I (λi b h=>by cases h);refine r.mono λe S ⟨he,hb⟩=>?_
 subst he;have L:∀x∈X,x.block<W.heap.size:=λx A=>by simpa using y.lt x (by simpa using A)
 refine⟨_,rfl,al1 (pa:=X) (pv:=[]) y ?_ ?_ ?_ (by simp) hb ?_⟩
 ·intro b sp hd
  rw[P];simp only[Dy,a];exact trodAll_cons_mk (shut_bool underlying4 _) trodAll_mk0
 ·intro sp M
  rw[N];simp only[Dy,a];refine trodAll_mk1 (WideElems.Trod_stays laidOut (by kernel_rfl) (aL (by kernel_rfl)) h0 (λx A=>hb.same (L x A)) λx A=>M x (by simpa using A))
 ·intro sp _
  rw[g];simp only[Dy,a];rfl
 ·exact ok_one P rfl (okWide_bool_mk underlying4 _)
def cd(r:χ O):Fence:={Fence.wide with round:=r}
def Y':cd ζ=Fence.wide:=rfl
def abU{r:χ O}{n:O}{P:aF}{f:bq}{args:aU τ}{w:υ}{R:Ending->υ->Prop}(h:aH P f args w R):CallsIn (cd r) n P f args w R:=by
 cases r with
 |none=>exact Qk.2 h
 |some l=>exact CallsIn.inRound l (Qk.2 h)
def aow{r:χ O}{P:aF}{m a:Machine}(h:Steps P m a):StepsIn (Machine.fenced P (cd r)) P m a:=by
 cases r with
 |none=>exact stepsIn_wide.2 h
 |some l=>exact stepsIn_wide.2 h
def anL{r:χ O}{n:O}{P:aF}{a:String}{args:aU τ}{w:υ}{R:τ->υ->Prop}(h:Rows P a args w R):RowsIn (cd r) n P a args w R:=
 λc b _=>let⟨v,d,q,s⟩:=h c b;⟨v,d,q,aow s⟩
def Wm{r:χ O}{n:O}{P:aF}{o:a6}{a:aV}{w:υ}{next:aV->υ->Prop}{Q:dj->aV->υ->Prop}(g:∀c,o.op≠ .defer c)(h:o.wp P a w next Q):o.wpIn (cd r) n P a w next Q:=by
 refine⟨λ_ _=>trivial,?_⟩;have i:o.semAt (cd r).round a.eval=dl a.eval o:=by
  cases r with
  |none=>exact Oper.semAt_none _ _
  |some l=>exact Oper.semAt_some l _ o g
 rw[i];unfold nJ at h;generalize(dl a.eval o).run P w=R at h;cases R with
 |ok x j=>
  cases x with
  |value v=>exact h
  |skip=>exact h
  |defer d=>exact h
  |enter f args=>exact⟨λb=>(by cases b),abU (h.mono λe k m=>by cases e<;>exact m)⟩
  |row row args=>exact⟨λb=>(by cases b),anL h⟩
  |round=>exact h.elim
  |_=>exact h.elim
 |halt x j=>
  cases x with
  |panic v=>exact h
  |_=>exact h.elim
def vg(ops:aU a6):κ:=ops.toList.all λo=>match o.op with
 | .defer _=>η
 |_=>ε
def ajc{ops:aU a6}(h:vg ops=ε){i:O}{o:a6}(a:ops[i]?=γ o):∀c,o.op≠ .defer c:=by
 intro c e;have b:o∈ops.toList:=by have:=cm.1 a;obtain⟨d,e⟩:=this;rw[<-e];simp
 have:=bX.1 h o b;rw[e]at this;cases this
def OB{r:χ O}{n:O}{P:aF}{ops:aU a6}{Q:dj->aV->υ->Prop}(e:vg ops=ε)(f:¬LetsOut Q){i:O}{b:aV->υ->Prop}{a:aV}{w:υ}(h:lD P ops Q i b a w):wpOpIn (cd r) n P ops Q i b a w:=by
 unfold lD at h;unfold wpOpIn;cases c:ops[i]?with
 |none=>rw[c]at h;exact h
 |some o=>
  rw[c]at h;simp only at h⊢;split at h
  ·rename_i d
   rw[aP d];rcases h with h|h
   ·exact Wm (ajc e c) h
   ·exact(f h.2).elim
  ·rename_i d
   rw[bi d];exact⟨λ_ _=>trivial,h⟩
def Zg{r:χ O}{n:O}{P:aF}{ops:aU a6}{Q:dj->aV->υ->Prop}(b:vg ops=ε)(c:¬LetsOut Q):∀{l:E O}{a:aV}{w:υ},sj P ops Q l a w->wpOpsIn (cd r) n P ops Q l a w
 |[],a,w,h=>h
 |i::l,a,w,h=>by rw[wpOps_cons]at h;rw[wpOpsIn_cons];exact wpOpIn_mono (λa w h=>Zg b c h) (OB b c h)
def Ze{r:χ O}{n:O}{P:aF}{md:Region.Mode}{ops:aU a6}{Q:dj->aV->υ->Prop}(c:vg ops=ε)(d:¬LetsOut Q):∀{fuel:O}{b:aU κ}{a:aV}{w:υ},wpAny P md ops Q fuel b a w->wpAnyIn (cd r) n P md ops Q fuel b a w
 |0,_,_,_,h=>h
 |_+1,_,_,_,h=>⟨h.1,λi e=>wpOpIn_mono (λ_ _ h=>Ze c d h) (OB c d (h.2 i e))⟩
def ni(f:E zq)(M:O->Prop)(g:υ)(c:Nu)(b:dx)(Q:Ex->E AV->E AB->Prop):dj->aV->υ->Prop:=
 λe a w=>∃d T H h,e=Ex.to d/\(b d T H).ok Q/\SR M g c T H a w h/\a.defers=f
def Ww{d:E zq}{M:O->Prop}{e:υ}{c:Nu}{b:dx}{Q:Ex->E AV->E AB->Prop}:¬LetsOut (ni d M e c b Q):=by rintro⟨a,w,f,T,H,g,h,_⟩;cases f<;>cases h
def Wx{f:E zq}{M:O->Prop}{g:υ}{d:Nu}{b:dx}{k2:E AV->E AB->ao}{Q:Ex->E AV->E AB->Prop}{c:aV->υ->Prop}{e:dj}{a:aV}{w:υ}(h:ni f M g d (C' k2 b) Q e a w)(l:∀T H ν,(k2 T H).ok Q->SR M g d T H a w ν->a.defers=f->c a w):dj.then c (ni f M g d b Q) e a w:=by
 obtain⟨m,T,H,ν,rfl,i,j,k⟩:=h;cases m with
 |normal=>exact l T H ν i j k
 |exit id=>exact⟨.exit id,T,H,ν,rfl,i,j,k⟩
 |ret=>exact⟨.ret,T,H,ν,rfl,i,j,k⟩
def alZ{l:E zq}{M:O->Prop}{m:υ}{d:Nu}{b:dx}{Q:Ex->E AV->E AB->Prop}{id:O}{e:dj}{a:aV}{w:υ}(h:ni l M m d (sN id b) Q e a w):oB id (ni l M m d b Q) e a w:=by
 obtain⟨o,T,H,f,rfl,c,g,i⟩:=h;cases o with
 |normal=>exact⟨.normal,T,H,f,rfl,c,g,i⟩
 |ret=>exact⟨.ret,T,H,f,rfl,c,g,i⟩
 |exit j=>
  simp only[Ex.to,oB];simp only[sN]at c;split
  ·rename_i k
   subst k;rw[l5]at c;exact⟨.normal,T,H,f,rfl,c,g,i⟩
  ·rename_i k
   cases n:ai j id with
   |true=>exact(k (ci n)).elim
   |false=>rw[n]at c;exact⟨.exit j,T,H,f,rfl,c,g,i⟩
def al0{f:E zq}{M:O->Prop}{g:υ}{c:Nu}{b:dx}{Q:Ex->E AV->E AB->Prop}{e:dj}{a:aV}{w:υ}(h:ni f M g c b Q e a w):Zz (ni f M g c b Q) e a w:=by
 have d:=h;obtain⟨i,T,H,k,rfl,l,m,n⟩:=h;cases i with
 |normal=>exact d
 |ret=>exact d
 |exit j=>exact d
def y_{P:aF}{b:Frame}{a:aV}{k:E Go.Item}{cs:E Frame}{w:υ}{c:a9}:jU P (lone (b.atR a (.code (.scope c)::k)) cs w)=.next (lone (b.atR a (.code c::.inScope c::k)) cs w):=
 step_lone_go (by simp[stepG,stepG.exec,Frame.atR])
def aot{P:aF}{b:Frame}{a:aV}{k:E Go.Item}{cs:E Frame}{w:υ}{c:a9}:jU P (lone (b.atR a (.inScope c::k)) cs w)=.next (lone (b.atR a k) cs w):=
 step_lone_go (by simp[stepG,stepG.exec,Frame.atR])
def asV{d:Fence}{n:O}{P:aF}{c:a9}{Q:dj->aV->υ->Prop}{a:aV}{w:υ}(h:c.wpIn d n P (Zz Q) a w):(Code.scope c).wpIn d n P Q a w:=by
 intro b k u p q r;have j:(lone (b.atR a (.code (.scope c)::k)) u w).fenced P d:=fenced_calm q r rfl;obtain⟨e,g,i,m,f⟩:=h b (.inScope c::k) u p q r;cases e with
 |normal=>exact⟨.normal,g,i,m,.head j y_ (StepsIn.trans f (.one (fenced_calm q r rfl) aot))⟩
 |exit id=>
  have v:exitTo id (.inScope c::k)=exitTo id k:=by simp[exitTo]
  exact⟨.exit id,g,i,m,λx s=>.head j y_ (f.1 x (by rw[v];exact s)),λt s=>let⟨o,y,z⟩:=f.2 t (by rw[v];exact s);⟨o,y,.head j y_ z⟩⟩
 |goto l=>exact m.elim
 |ret=>exact⟨_,g,i,m,.of_steps (.one j y_) f⟩
 |panic A=>exact⟨_,g,i,m,.of_steps (.one j y_) f⟩
 |outgrown=>exact⟨_,g,i,m,.of_steps (.one j y_) f⟩
def eh:a9->κ
 | .region _ ops _=>vg ops
 | .seq a b=>eh a&&eh b
 | .cond _ a b=>eh a&&eh b
 | .block _ c=>eh c
 | .loop c=>eh c
 | .scope c=>eh c
 |_=>ε
def lI{P:aF}{Γ:aE}(U:aK P Γ)(I:P.follows .mixedOrders=ε)(L:Enters P)(r:χ O)(nn:O)(W:E zq):∀(n:O)(c:a9),eh c=ε->∀(M:O->Prop)(p:υ)(f:Nu),(∀k,p.heap.size<=k->M k)->∀(T:E AV)(H:E AB)(d:dx)(Q:Ex->E AV->E AB->Prop)(a:aV)(w:υ)(ν:Nu),(a0 P Γ n K c T H d).ok Q->SR M p f T H a w ν->a.defers=W->c.wpIn (cd r) nn P (ni W M p f d Q) a w:=by
 intro n;induction n with
 |zero=>intro c _ M p f hM T H d Q a w ν h;exact h.elim
 |succ n X=>
  intro c v M p f hM T H d Q a w ν h j B;have A:∀e,(d e T H).ok Q->ni W M p f d Q (Ex.to e) a w:=λe hk=>⟨e,T,H,ν,rfl,hk,j,B⟩
  cases c with
  |skip=>exact wpIn_skip (A .normal h)
  |label l=>exact wpIn_label (A .normal h)
  |region id ops draw=>
   cases draw with
   |true=>
    simp only[a0,aZ]at h;obtain⟨es,T',C,r1,h2⟩:=xj h;rcases kZ h2 with⟨N,h2⟩|⟨_,h2⟩
    ·have hB:jx ops.toList es=ε:=by simpa using N
     refine wpIn_region_any I ?_;have s:SR M p f T H a {w with drawn:=w.drawn+1} ν:=⟨j.tmps,⟨λi=>(j.heap.br i).of_block λ_ _ _=>rfl,j.heap.sep,j.heap.own,j.heap.lt,j.heap.eC⟩,j.fr.drew,j.b6,j.len,j.le⟩;have:=Q0 (Q:=ni W M p f d Q) U hM r1 hB s λR D o h' u=>⟨.normal,T',C,o,rfl,h2,h',u.trans B⟩
     exact Ze v Ww (by simpa using this)
    ·exact h2.elim
   |false=>
    refine wpIn_region ?_;simp only[a0,a_]at h;have:=CG (Qw:=ni W M p f d Q) (all:=ops.toList) U hM (Q:=Q) (λg avs C Kc vals D o N hv hH S hM'=>?_) ops.toList 0 T H a w ν rfl h j λT' C R D o hk s u=>⟨.normal,T',C,o,rfl,hk,s,u.trans B⟩
    ·refine Zg v Ww ?_
     rw[<-aaa]at this;simpa using this
    ·split at N
     ·rename_i fn hf
      split at N
      ·rename_i c' hb
       rw[sQ]at N;refine⟨λargs w=>L g fn hf (by rw[hb];rfl) args w,?_⟩;refine D0 hf hb (oN (sM U I L n C.length (λ_=>ζ) c' (λ_ _ h=>by cases h) M D o hM' S _ C (mg P fn Kc) Q _ D o N (qw hv hH S) rfl) λe R w'' G=>?_);exact KB G
      ·exact N.elim
     ·exact N.elim
  |seq x y=>simp only[eh,aM]at v;exact wpIn_seq (ku (X x v.1 M p f hM T H _ Q a w ν h j B) λe R D G=>Wx G λT' C o hk s u=>X y v.2 M p f hM T' C d Q R D o hk s u)
  |cond c x y=>
   simp only[eh,aM]at v;simp only[a0]at h;split at h
   ·rename_i q hq
    have hv:a.eval c=.bool q:=by
     have:=ld (T:=T) (a:=a) (ν:=ν) (z:=c) λt _=>j.tmps t
     rw[hq]at this;simpa only[VR]using this
    refine wpIn_cond hv ?_;rcases kZ h with⟨rfl,h⟩|⟨rfl,h⟩
    ·rw[G4 hq]at h
     exact X x v.1 M p f hM T H d Q a w ν h j B
    ·rw[G4 hq]at h
     exact X y v.2 M p f hM T H d Q a w ν h j B
   ·exact h.elim
  |block id b=>simp only[eh]at v;simp only[a0]at h;exact wpIn_block (ku (X b v M p f hM T H _ Q a w ν h j B) λe R D G=>alZ G)
  |scope b=>simp only[eh]at v;simp only[a0]at h;exact asV (ku (X b v M p f hM T H d Q a w ν h j B) λe R D G=>al0 G)
  |loop b=>
   simp only[eh]at v;simp only[a0]at h;refine wpIn_loop_rounds n ?_;have key:∀(m:O)(T:E AV)(H:E AB)(a:aV)(w:υ)(ν:Nu),(iter (a0 P Γ n K b) m T H d).ok Q->SR M p f T H a w ν->a.defers=W->Code.roundsIn (cd r) nn P b (ni W M p f d Q) m a w:=by
    intro m;induction m with
    |zero=>intro T H a w ν h;exact h.elim
    |succ m ihm=>intro T H a w ν h j B;rw[roundsIn_succ];exact ku (X b v M p f hM T H _ Q a w ν h j B) λe R D G=>Wx G λT' C o hk s u=>ihm T' C R D o hk s u
   exact key n T H a w ν h j B
  |exit id=>exact wpIn_exit (A (.exit id) h)
  |ret=>exact wpIn_ret (A .ret h)
  |_=>simp only[a0]at h;exact h.elim
def dv(w:υ)(ν:Nu)(H:E AB):O->Prop:=λk=>w.heap.size<=k\/∃i b,(H.getD i .gone).wr=ε/\ν i=γ b/\b.n=k
def SR.rM{M:O->Prop}{j:υ}{d:Nu}{T:E AV}{H:E AB}{a:aV}{w:υ}{ν:Nu}(h:SR M j d T H a w ν)(hM:∀k,j.heap.size<=k->M k:=by first|assumption|exact λk c=>.inl c):SR (dv w ν H) w ν T H a w ν:=
 ⟨h.tmps,⟨h.heap.br,h.heap.sep,λi b f g=>.inr ⟨i,b,f,g,rfl⟩,h.heap.lt,h.heap.eC.mono λk _ c=>c.elim (λc=>hM k (cD h.fr.size c)) λ⟨i,b,f,g,e⟩=>e▸h.heap.own i b f g⟩,Fr.refl _ _,h.b6,h.len,Le.refl _⟩
def SR.qy{M:O->Prop}{j:υ}{e:Nu}{T T':E AV}{H H':E AB}{a n:aV}{w w':υ}{ν f:Nu}(hM:∀k,j.heap.size<=k->M k)(h:SR M j e T H a w ν)(d:SR (dv w ν H) w ν T' H' n w' f):SR M j e T' H' n w' f:=by
 have c:∀k,dv w ν H k->M k:=by
  rintro k (g|⟨i,b,l,m,rfl⟩)
  ·exact hM k (cD h.fr.size g)
  ·exact h.heap.own i b l m
 exact⟨d.tmps,⟨d.heap.br,d.heap.sep,λi b l m=>c _ (d.heap.own i b l m),d.heap.lt,h.heap.eC.fr (d.fr.mono λk _ g=>c k g)⟩,h.fr.trans (d.fr.mono λk _ g=>c k g),d.b6,d.len,h.le.trans d.le⟩
def SR.mE{M:O->Prop}{q:υ}{m:Nu}{T:E AV}{H:E AB}{a:aV}{w w':υ}{ν:Nu}{row:χ O}(hM:∀k,q.heap.size<=k->M k)(h:SR M q m T H a w ν)(f:w.grownBy w' row)(v:∀r,row=γ r->q.heap.size<=r/\∃o:Obj,w.heap[r]?=γ o/\o.isCells=η):SR M q m T H a w' ν:=by
 have B:∀i k,ν i=γ k->(H.getD i .gone).live=ε->w'.heap[k.n]?=w.heap[k.n]?:=by
  intro i k c u;refine f.block _ (h.heap.lt i k c) λe=>?_
  obtain⟨_,o,z,A⟩:=v _ e.symm;have d:=h.heap.br i;cases x:H.getD i .gone with
  |cells D t=>rw[x]at d;obtain⟨b,l,j,_,p,_⟩:=d;rw[c]at j;cases j;rw[z]at p;cases p;cases A
  |row rw n s g t=>
   rw[x]at d;rcases d with⟨_,_,j⟩|⟨b,l,G,I,j,p,_⟩
   ·rw[c]at j;cases j
   ·rw[c]at j
    cases j;rw[z]at p;cases p;cases A
  |gone=>rw[x]at u;cases u
 refine⟨h.tmps,⟨λi=>(h.heap.br i).of_block λk c u=>B i k c u,h.heap.sep,h.heap.own,λi b C=>eE (h.heap.lt i b C) f.size,h.heap.eC.block λk c y=>f.block k c λe=>y (hM _ (v _ e.symm).1)⟩,?_,h.b6,h.len,h.le⟩;refine⟨f.os.trans h.fr.os,f.tape.trans h.fr.tape,f.output.trans h.fr.output,cD h.fr.size f.size,λk c y=>?_⟩;rw[f.block k (eE c h.fr.size) λe=>?_]
 ·exact h.fr.block k c y
 ·have:=(v _ e.symm).1
  omega
def jG:E Tmp->E τ->E AV->E AV
 |p::a,v::b,T=>jG a b (T.set p (.v v))
 |_,_,T=>T
def MT{ν:Nu}:∀{ps:E Tmp}{vs:E τ}{T:E AV}{t:aU τ},(∀p∈ps,p<T.length)->T.length<=t.size->(∀i,VR ν (T.getD i .dead) (t.getD i aX))->(∀i,VR ν ((jG ps vs T).getD i .dead) (((ps.zip vs).foldl (λt (p,v)=>t.setIfInBounds p v) t).getD i aX))/\(jG ps vs T).length<=((ps.zip vs).foldl (λt (p,v)=>t.setIfInBounds p v) t).size
 |[],vs,T,t,_,a,h=>⟨h,a⟩
 |p::ps,[],T,t,_,a,h=>⟨h,a⟩
 |p::ps,v::vs,T,t,c,a,h=>by
  simp only[jG,List.zip_cons_cons,zA];refine MT (by simpa using λq d=>c q (lB _ d)) (by simpa using a) λi=>?_
  have b:=c p (by simp);by_cases e:p=i
  ·subst e
   have f:p<t.size:=eE b a;simp[cq,qE,b,f,VR]
  ·simpa[cq,qE,O_,OH,e]using h i
def ia(w:υ)(M:O->Prop)(W a:υ):Prop:=W.heap.size<=a.heap.size/\∀(k:O)(o:Obj),k<w.heap.size->¬M k->W.heap[k]?=γ o->a.heap[k]?=γ o
def ia.trans{w:υ}{M:O->Prop}{A B C:υ}(h:ia w M A B)(k:ia w M B C):ia w M A C:=⟨cD h.1 k.1,λi o a b c=>k.2 i o a b (h.2 i o a b c)⟩
def ia.fr{w:υ}{M c:O->Prop}{W d:υ}(hs:w.heap.size<=W.heap.size)(a:∀k,k<w.heap.size->c k->M k)(h:Fr c W d):ia w M W d:=
 ⟨h.size,λk _ e f g=>(h.block k (by omega) λb=>f (a k e b)).trans g⟩
def ia.put{w:υ}{M:O->Prop}{W:υ}{l:O}{o:Obj}(b:w.heap.size<=l):ia w M W (W.putObj l o):=
 ⟨by simp[World.putObj],λk c d _ a=>(qM (by omega)).trans a⟩
def J2(m:O):dx:=eH (λ_=>[]) m
def mT(P:aF)(Γ:aE)(n:O)(a:a9)(m:O):dx:=λe b c=>match e with
 | .normal=>a0 P Γ n K a b c (J2 m)
 |_=>.err
def xP:Ex->a9
 | .ret=>.ret
 | .exit id=>.exit id
 | .normal=>.skip
def SR.pg{M:O->Prop}{r:υ}{j:Nu}{T:E AV}{H:E AB}{a:aV}{w:υ}{ν:Nu}(h:SR M r j T H a w ν){l:O}{o:Obj}(f:w.heap[l]?=γ o)(p:o.isCells=η):¬dv w ν H l:=by
 rintro(u|⟨i,b,q,k,rfl⟩)
 ·rw[Array.getElem?_eq_none u]at f;cases f
 ·have c:=h.heap.br i
  cases m:H.getD i .gone with
  |cells x t=>rw[m]at c;obtain⟨v,l,d,_,e,_⟩:=c;rw[k]at d;cases d;rw[f]at e;cases e;cases p
  |row rw n s g t=>
   rw[m]at c;rcases c with⟨_,_,d⟩|⟨v,l,y,z,d,e,_⟩
   ·rw[k]at d;cases d
   ·rw[k]at d
    cases d;rw[f]at e;cases e;cases p
  |gone=>rw[m]at q;cases q
def Jr{α:Type}(lv:Ex->κ)(c:E α->E AB)(d:Ex->E α->E AB)(a:E α):Ex->E AV->E AB->Prop:=λe _ b=>match e with
 | .normal=>ab b (c a)
 |e=>lv e=ε/\ab b (d e a)
def qP{α:Type}(c:E α->Prop)(d:Ex->E α->Prop)(f:E α->E AB)(g:Ex->E α->E AB)(a:E α):Ex->E AV->E AB->Prop:=λe _ b=>match e with
 | .normal=>c a/\ab b (f a)
 |e=>d e a/\ab b (g e a)
def aml{Q b:Ex->E AV->E AB->Prop}(h:∀e T H,Q e T H->b e T H):∀{r:ao},r.ok Q->r.ok b
 | .err,a=>a
 | .out e T H,a=>h e T H a
def anF{α:Type}{lv:Ex->κ}{c:E α->E AB}{d:Ex->E α->E AB}{a:E α}{r:ao}(h:r.ok (Jr lv c d a)):r.ok (qP (λ_=>True) (λe _=>lv e=ε) c d a):=
 aml (λe T H b=>by
  cases e with
  |normal=>exact⟨trivial,b⟩
  |ret=>exact b
  |exit j=>exact b) h
def Gh(w:υ)(M:O->Prop)(W a:υ):Prop:=ia w M W a/\KeepsWalks W a
def SR.walks{M:O->Prop}{e:υ}{b:Nu}{T:E AV}{H:E AB}{a:aV}{w w':υ}{ν:Nu}(h:SR M e b T H a w ν)(d:Fr (dv w ν H) w w'):KeepsWalks w w':=
 ⟨d.size,λk _ c f=>(d.block k (cm.1 c).1 (h.pg c (Obj.not_cells_of_walk f))).trans c⟩
def aox{α:Type}{a:Fence}{n:O}{P:aF}{g:O}{m:aU τ}{encs:α->aU τ}{o d:υ->υ->Prop}{S Sp:E α->Prop}{N:O}{w:υ}(h:wu a n P g m encs o S Sp N w)(p:∀A B,d A B->o A B):wu a n P g m encs d S Sp N w:=λl b q W r s j t u=>h l b q W r s j (λk x v y z=>by obtain⟨fn,f,c,i,C,D⟩:=t k x v y z;exact⟨fn,f,c,i,C,D.mono λe H G=>G.imp (λh=>⟨h.1,h.2.1,p _ _ h.2.2⟩) id⟩) u
def amb{α:Type}{P:aF}{Γ:aE}(hΓ:aK P Γ)(hmix:P.follows .mixedOrders=ε)(hent:Enters P){g:cS}{gf:O}{lb:aU τ}{encs:α->E τ}{ps:aU Tmp}{assign body:a9}{S Sp:E α->Prop}{N nn n:O}{T:E AV}{a:aV}{w:υ}{ν:Nu}(hg:a.eval g=.func (.func gf) #[] lb)(eg:∀args w,(g_ gf args).run P w=.ok (.enter gf args) w)(Jv:E α->Prop)(Lx:Ex->E α->Prop)(q:E α->E AB)(hx:Ex->E α->E AB)(hD1:eh assign=ε)(hD2:eh body=ε){m:O}(hm:(q []).length=m)(h0:SR (dv w ν (q [])) w ν T (q []) a w ν)(hseq:wu (cd ζ) nn P gf lb (λx=>(encs x).toArray) (Gh w (dv w ν (q []))) S Sp N w)(hps:∀x,(encs x).length=ps.size)(hpT:∀p∈ps.toList,p<T.length)(hJ0:Jv [])(hround:∀c x,Jv c->c.length<N->(a0 P Γ n K assign (jG ps.toList (encs x) T) (q c) (mT P Γ n body m)).ok (qP Jv Lx q hx (c++[x]))){Q:dj->aV->υ->Prop}(hdone:∀D xs W d,w.heap.size<=D->S xs->Jv xs->SR (dv w ν (q [])) w ν T (q xs) a W d->W.heap[D]?=γ (.deferred (γ []))->Q .normal {a with defers:={target:=.collected D,args:= #[]}::a.defers} W)(R:∀D e c W d,w.heap.size<=D->e≠ .normal->Lx e c->Sp c->SR (dv w ν (q [])) w ν T (hx e c) a W d->W.heap[D]?=γ (.deferred (γ []))->Q (Ex.to e) {a with defers:={target:=.collected D,args:= #[]}::a.defers} W):(Code.rangeFunc g ps assign body).wpIn (cd ζ) (nn+1) P Q a w:=by
 have hM:∀k,w.heap.size<=k->dv w ν (q []) k:=λk z=>.inl z
 refine wpIn_rangeFunc λfn hfn=>?_
 obtain⟨rec,j⟩:∃rec:LoopState->χ a9->Loop,rec=λst pe=>{state:=st,pending:=pe,fn,tmps:=a.tmps,params:=ps,assign,body,defers:=w.heap.size}:=⟨_,rfl⟩
 obtain⟨U,hW1⟩:∃U,(w.alloc (.deferred (γ []))).alloc (.loop (rec .ready ζ))=U:=⟨_,rfl⟩;have hsz:U.heap.size=w.heap.size+2:=by rw[<-hW1];simp
 have hL1:U.heap[w.heap.size+1]?=γ (.loop (rec .ready ζ)):=by rw[<-hW1];have:=l8 (w.alloc (.deferred (γ []))) (.loop (rec .ready ζ));rwa [World.size_alloc]at this
 have hK1:U.heap[w.heap.size]?=γ (.deferred (γ [])):=by rw[<-hW1];exact(Below.heap_alloc _ _ _ (by simp)).trans (l8 w _)
 have hg1:w.grownBy U ζ:=by rw[<-hW1];have e1:=fk w (.deferred (γ [])) ζ;have e2:=fk (w.alloc (.deferred (γ []))) (.loop (rec .ready ζ)) ζ;exact⟨e2.os.trans e1.os,e2.tape.trans e1.tape,e2.output.trans e1.output,cD e1.size e2.size,λk z hn=>(e2.block k (eE z e1.size) hn).trans (e1.block k z hn)⟩
 have hb1:Below w.heap.size w U:=⟨hg1.os,hg1.tape,hg1.output,hg1.size,λk z=>hg1.block k z (by simp)⟩
 --the caller's word:I
 let I:E α->υ->Prop:=λc W=>Jv c/\∃d,SR (dv w ν (q [])) w ν T (q c) a W d
 let Ix:Ex->E α->υ->Prop:=λe c W=>(e≠ .normal/\Lx e c)/\∃d,SR (dv w ν (q [])) w ν T (hx e c) a W d
 have hI:∀c W W' l,I c W->W.grownBy W' l->(∀r,l=γ r->w.heap.size<=r/\∃o:Obj,W.heap[r]?=γ o/\o.isCells=η)->I c W':=
  λc W W' l ⟨hj,d,u⟩ hg hr=>⟨hj,d,u.mE hM hg hr⟩
 have hIx:∀e c W W' l,Ix e c W->W.grownBy W' l->(∀r,l=γ r->w.heap.size<=r/\∃o:Obj,W.heap[r]?=γ o/\o.isCells=η)->Ix e c W':=
  λe c W W' l ⟨hn,d,u⟩ hg hr=>⟨hn,d,u.mE hM hg hr⟩
 have hI1:I [] U:=hI [] w U ζ ⟨hJ0,ν,h0⟩ hg1 λr e=>by cases e
 have hnw:∀{A:υ}{l:χ O},(∀r,l=γ r->U.heap.size<=r/\∃o:Obj,A.heap[r]?=γ o/\o.isWalk=ε)->(∀r,l=γ r->w.heap.size<=r/\∃o:Obj,A.heap[r]?=γ o/\o.isCells=η):=
  λhr r e=>by obtain⟨hB,o,ho,hw⟩:=hr r e;exact⟨by omega,o,ho,Obj.not_cells_of_walk hw⟩
 refine⟨w.heap.size+1,[{target:=.collected w.heap.size,args:= #[]}],U,{target:=.fn (.func gf) lb,args:= #[.func (.yield (w.heap.size+1)) #[] #[]]},U,gf,#[.func (.yield (w.heap.size+1)) #[] #[]]++lb,U,?_,?_,λ_ _=>trivial,?_,λh=>(by cases h),?_⟩
 ·rw[<-hW1,j];exact run_enterLoop_outer _ _ _ _ _
 ·simp only[kt,hg]
  simp[go_sem]
 ·simp[invoke,go_sem,eg]
 ·refine(hseq (w.heap.size+1) (λc W=>I c W/\W.heap[w.heap.size+1]?=γ (.loop (rec .ready ζ))/\W.heap[w.heap.size]?=γ (.deferred (γ []))) (λc W=>∃e,Ix e c W/\W.heap[w.heap.size+1]?=γ (.loop (rec .done (γ (xP e))))/\W.heap[w.heap.size]?=γ (.deferred (γ []))) U hb1 (λs A B l u L hr=>⟨hI s A B l u.1 L (hnw hr),(Ql L (λr e=>(hr r e).2) u.2.1 rfl).trans u.2.1,(Ql L (λr e=>(hr r e).2) u.2.2 rfl).trans u.2.2⟩) (λs A B l u L hr=>by obtain⟨e,hc,hl,z⟩:=u;exact⟨e,hIx e s A B l hc L (hnw hr),(Ql L (λr e=>(hr r e).2) hl rfl).trans hl,(Ql L (λr e=>(hr r e).2) z rfl).trans z⟩) ?_ ⟨hI1,hL1,hK1⟩).mono ?_
  ·rintro c x W ⟨⟨hj,d,u⟩,hl,z⟩ hlen
   have hlt:w.heap.size+1<W.heap.size:=(cm.1 hl).1;have hy:=run_yield (P:=P) (args:=(encs x).toArray) hl (by rw[j];simp[hps x]);rw[j]at hy;refine⟨fn,_,assign,body,hy,roundIn_of_wpIn hfn ?_⟩;have hpar:=MT (ps:=ps.toList) (vs:=encs x) (T:=T) (t:=a.tmps) hpT u.len u.tmps;have hfold:(ps.zip (encs x).toArray).foldl (λt (p,v)=>t.setIfInBounds p v) a.tmps=(ps.toList.zip (encs x)).foldl (λt (p,v)=>t.setIfInBounds p v) a.tmps:=by rw[<-Array.foldl_toList,Array.toList_zip]
   have X:SR (dv w ν (q [])) w ν (jG ps.toList (encs x) T) (q c) {tmps:=(ps.toList.zip (encs x)).foldl (λt (p,v)=>t.setIfInBounds p v) a.tmps,defers:=[]} W d:=
    ⟨hpar.1,u.heap,u.fr,u.b6,hpar.2,u.le⟩
   have hsub1:∀k,k<w.heap.size->dv W d (q c) k->dv w ν (q []) k:=by
    rintro k z (hk'|⟨i,b,hw,hb,rfl⟩)
    ·have:=u.fr.size;omega
    ·exact u.heap.own i b hw hb
   have run1:=lI hΓ hmix hent (γ (w.heap.size+1)) (nn-1) [] n assign hD1 (dv W d (q c)) W d (λk z=>.inl z) _ _ _ _ _ W d (hround c x hj hlen) X.rM rfl;show assign.wpIn (cd (γ (w.heap.size+1))) (nn-1) P _ _ W
   simp only[hfold];refine ku run1 ?_;rintro e a1 Wa ⟨e1,T1,H1,ν1,rfl,hk1,hS1,hd1⟩;cases e1 with
   |exit id=>exact hk1.elim
   |ret=>exact hk1.elim
   |normal=>
    have hlA:Wa.heap[w.heap.size+1]?=γ (.loop (rec .ready ζ)):=(hS1.fr.block _ hlt (u.pg hl rfl)).trans hl;have hkA:Wa.heap[w.heap.size]?=γ (.deferred (γ [])):=(hS1.fr.block _ (by omega) (u.pg z rfl)).trans z;have hSu:=X.qy hM hS1;refine⟨_,run_beginRound hlA (by rw[j]),?_⟩;obtain⟨M,hW2⟩:∃M,Wa.putObj (w.heap.size+1) (.loop {rec .ready ζ with state:=.busy})=M:=⟨_,rfl⟩;have hl2:M.heap[w.heap.size+1]?=γ (.loop {rec .ready ζ with state:=.busy}):=by rw[<-hW2];exact Qi (cm.1 hlA).1
    have hk2:M.heap[w.heap.size]?=γ (.deferred (γ [])):=by rw[<-hW2];exact(qM (by omega)).trans hkA
    have G:SR (dv w ν (q [])) w ν T1 H1 a1 M ν1:=by
     rw[<-hW2];refine hSu.mE hM (sf Wa _ _) λr e=>?_
     cases e;exact⟨by omega,_,hlA,rfl⟩
    have hkp2:Gh w (dv w ν (q [])) W M:=by rw[<-hW2];exact⟨(ia.fr (u.fr.size) hsub1 hS1.fr).trans (ia.put (by omega)),(u.walks hS1.fr).trans (atH _ hlA rfl)⟩
    rw[hW2];have hsub2:∀k,k<w.heap.size->dv M ν1 H1 k->dv w ν (q []) k:=by
     rintro k z (hk'|⟨i,b,hw,hb,rfl⟩)
     ·have:=G.fr.size;omega
     ·exact G.heap.own i b hw hb
    have run2:=lI hΓ hmix hent (γ (w.heap.size+1)) (nn-1) [] n body hD2 (dv M ν1 H1) M ν1 (λk z=>.inl z) _ _ _ _ a1 M ν1 hk1 G.rM hd1;refine ku run2 ?_;rintro e a2 W3 ⟨e2,T2,H2,ν2,rfl,C,hS3,hd3⟩;have hl3:W3.heap[w.heap.size+1]?=γ (.loop {rec .ready ζ with state:=.busy}):=(hS3.fr.block _ (cm.1 hl2).1 (G.pg hl2 rfl)).trans hl2;have hk3':W3.heap[w.heap.size]?=γ (.deferred (γ [])):=(hS3.fr.block _ (cm.1 hk2).1 (G.pg hk2 rfl)).trans hk2;have hS4:=G.qy hM hS3;have hkp3:Gh w (dv w ν (q [])) W W3:=⟨hkp2.1.trans (ia.fr G.fr.size hsub2 hS3.fr),hkp2.2.trans (G.walks hS3.fr)⟩;unfold J2 eH at C;split at C
    ·rename_i p hwk
     have hS5:=nt hwk hS4 (by rw[<-hm];exact h0.b6);have fin:∀(f:χ a9),(Instr.endRound (w.heap.size+1) f).run P W3=.ok (.bool f.isNone) (W3.putObj (w.heap.size+1) (.loop (rec (if f.isNone then .ready else .done) f)))/\
       (W3.putObj (w.heap.size+1) (.loop (rec (if f.isNone then .ready else .done) f))).heap[w.heap.size+1]?=γ (.loop (rec (if f.isNone then .ready else .done) f))/\
       (W3.putObj (w.heap.size+1) (.loop (rec (if f.isNone then .ready else .done) f))).heap[w.heap.size]?=γ (.deferred (γ []))/\∀HH ν3,SR (dv w ν (q [])) w ν p.1 HH a2 W3 ν3->SR (dv w ν (q [])) w ν T HH a (W3.putObj (w.heap.size+1) (.loop (rec (if f.isNone then .ready else .done) f))) ν3:=λf=>by
      have:=run_endRound (P:=P) f hl3;rw[j]at this⊢;refine⟨this,Qi (cm.1 hl3).1,(qM (by omega)).trans hk3',λHH ν3 hh=>?_⟩;have h1:SR (dv w ν (q [])) w ν T HH a W3 ν3:=⟨λt=>(h0.tmps t).le hh.le,hh.heap,hh.fr,hh.b6,h0.len,hh.le⟩;refine h1.mE hM (sf W3 _ _) λr e=>?_
      cases e;exact⟨by omega,_,hl3,rfl⟩
     cases e2 with
     |normal=>obtain⟨f1,f2,f3,f4⟩:=fin ζ;exact⟨_,_,f1,.inl ⟨rfl,⟨⟨C.1,_,f4 _ _ (hS5.ii C.2)⟩,f2,f3⟩,⟨hkp3.1.trans (ia.put (by omega)),hkp3.2.trans (atH _ hl3 rfl)⟩⟩⟩
     |ret=>obtain⟨f1,f2,f3,f4⟩:=fin (γ .ret);exact⟨_,_,f1,.inr ⟨rfl,.ret,⟨⟨(by simp),C.1⟩,_,f4 _ _ (hS5.ii C.2)⟩,f2,f3⟩⟩
     |exit id=>obtain⟨f1,f2,f3,f4⟩:=fin (γ (.exit id));exact⟨_,_,f1,.inr ⟨rfl,.exit id,⟨⟨(by simp),C.1⟩,_,f4 _ _ (hS5.ii C.2)⟩,f2,f3⟩⟩
    ·exact C.elim
  ·rintro e M ⟨⟨v,rfl⟩,(⟨xs,hS,⟨hj,d,hi⟩,hl,z⟩|⟨c,hSp,e,⟨hne,d,hi⟩,hl,z⟩)⟩
   ·have H:=Qo (P:=P) hl (by rw[j];simp)
    rw[j]at H;refine⟨ζ,_,H,hdone _ xs _ d (aR _) hS hj (hi.mE hM (sf M _ _) λr e=>?_) ((qM (by omega)).trans z)⟩;cases e;exact⟨by omega,_,hl,rfl⟩
   ·have H:=Qo (P:=P) hl (by rw[j];simp)
    rw[j]at H;have hi':=hi.mE (w':=M.putObj (w.heap.size+1) (.loop {rec .done (γ (xP e))with state:=.exhausted})) hM (sf M _ _) λr e=>by cases e;exact⟨by omega,_,hl,rfl⟩
    have hk':(M.putObj (w.heap.size+1) (.loop {rec .done (γ (xP e))with state:=.exhausted})).heap[w.heap.size]?=γ (.deferred (γ [])):=(qM (by omega)).trans z;rw[j]at hi' hk';refine⟨_,_,H,?_⟩;cases e with
    |normal=>exact(hne.1 rfl).elim
    |ret=>exact wpIn_ret (R _ .ret c _ d (aR _) hne.1 hne.2 hSp hi' hk')
    |exit id=>exact wpIn_exit (R _ (.exit id) c _ d (aR _) hne.1 hne.2 hSp hi' hk')
def Ym(k:O)(all:E a6):κ:=(dH all.length).all λi=>Δ i k||(dH k).all λj=>((ji all []).getD i 0).testBit j
def sI(k n:O):aU κ:=((dH n).map λj=>ο (j<k)).toArray
def adB:∀{k n:O},k<=n->(((dH n).map λj=>ο (j<k)).toArray.toList).count η=n-k:=by
 intro k n;induction n with
 |zero=>intro h;simp
 |succ n a=>
  intro h;simp only[List.range_succ,List.map_append,eD,kp,List.count_append]at a⊢;by_cases b:k<=n
  ·rw[a b,eJ (by omega)]
   simp;omega
  ·have:k=n+1:=by omega
   subst this;have c:((dH n).map λj=>ο (j<n+1)).count η=0:=by rw[Dz];intro d;obtain⟨j,f,e⟩:=fX.1 d;have:=mM.1 f;simp at e;omega
   rw[c,bA (by omega)];simp
def Dk:∀(l:E a6)(a:E eW),aac Item.mk (l.take a.length) a=aac Item.mk l a
 |[],a=>by simp
 |o::l,[]=>by simp
 |o::l,e::a=>by simp[Dk l a]
def abk{P:aF}{Γ:aE}(hΓ:aK P Γ){nn k:O}{all:E a6}{p:E eW}{M:O->Prop}{w0:υ}{L:Nu}(hM:∀k,w0.heap.size<=k->M k){T:E AV}{H:E AB}{T':E AV}{H':E AB}(r:su P Γ all (all.take k) p T H T' H')(hkl:k<=all.length)(hnd:vg all.toArray=ε)(hB:jx all p=ε)(hC:Ym k all=ε){a:aV}{w:υ}{ν:Nu}{Q:dj->aV->υ->Prop}(hQo:¬LetsOut Q)(h:SR M w0 L T H a w ν)(hQ:∀s w' m,SR M w0 L T' H' s w' m->s.defers=a.defers->wpAnyIn (cd ζ) nn P .any all.toArray Q (all.length-k) (sI k all.length) s w'):wpAnyIn (cd ζ) nn P .any all.toArray Q all.length (r4 all.length η) a w:=by
 have rl:p.length=k:=by rw[yR r];simp;omega
 have g:items (all.take k) p=items all p:=by simp only[items];rw[<-rl];exact Dk all p
 have ra:wR P Γ all all p T H T' H':=by have N:=vy r;have:=N.at_;exact⟨by omega,N.Bu,N.xX,by rw[<-g];exact N.at_,by rw[<-g];exact N.uD,by rw[<-g];exact N.AA,by rw[<-g];exact N.base,by rw[<-g];exact N.apart,by rw[<-g];exact N.lt⟩
 have hlen:(items all p).length=k:=by simp[items,rl];omega
 simp only[jx,aM]at hB;obtain⟨hB1,hB2⟩:=hB;have X:∀(i:O) o,all[i]?=γ o->∀e∈o.after,l6 .any e=ε->e.on<i:=λi o ho e he D=>by simpa using EY hB1 i o ho e he D
 have G:∀(i j:O) x y,i<j->(items all p)[i]?=γ x->(items all p)[j]?=γ y->((ji all []).getD j 0).testBit i=ε\/kQ all.toArray x y=ε:=λi j x y hij hx v=>GP hB2 j y v i x (by simpa using hij) (by simpa using hx)
 have key:∀(f:O)(c:aU κ)(s:aV)(w':υ)(m:Nu),c.size=all.length->c.toList.count η=f->D3 all (λj=>c.getD j η)->(∀j,k<=j->c.getD j η=η)->
   qQ M w0 L T.length H.length (λt=>T.getD t .dead) (λb=>H.getD b .gone) (items all p) (λj=>c.getD j η) s w' m->s.defers=a.defers->wpAnyIn (cd ζ) nn P .any all.toArray Q f c s w':=by
  intro f;have fin:∀(f:O)(c:aU κ)(s:aV)(w':υ)(m:Nu),c.size=all.length->c.toList.count η=f->(∀j,k<=j->c.getD j η=η)->
    qQ M w0 L T.length H.length (λt=>T.getD t .dead) (λb=>H.getD b .gone) (items all p) (λj=>c.getD j η) s w' m->s.defers=a.defers->(∀j,j<k->c.getD j η=ε)->wpAnyIn (cd ζ) nn P .any all.toArray Q f c s w':=by
   intro f c s w' m hs n B st hd U;have e1:c=sI k all.length:=by
    apply aU.ext
    ·simp[sI,hs]
    ·intro j hj1 hj2
     simp only[sI,List.getElem_toArray,HI,List.getElem_range];have h1:c.getD j η=c[j]:=by simp[qD,hj1]
     rw[<-h1];by_cases hjk:j<k
     ·rw[U j hjk,bA hjk]
     ·rw[B j (by omega),eJ hjk]
   have e2:f=all.length-k:=by rw[<-n,e1];simp only[sI];exact adB hkl
   rw[e2,e1];exact hQ s w' m (G_ ra st λj d=>U j (by omega)) hd
  induction f with
  |zero=>
   intro c s w' m hs n hc B st hd;refine fin 0 c s w' m hs n B st hd λj d=>?_
   have hjs:j<c.size:=by omega
   have hne:η∉c.toList:=Dz.1 n;have:c[j]≠η:=λe=>hne (by rw[<-e];simp)
   simp[qD,hjs];simpa using this
  |succ f ih=>
   intro c s w' m hs n hc B st hd;by_cases I:∀j,j<k->c.getD j η=ε
   ·exact fin (f+1) c s w' m hs n B st hd I
   refine⟨λhnil=>(I λj d=>?_).elim,λi hi=>OB hnd hQo ?_⟩
   ·induction j using DL with
    |_ j jh=>
     cases hl:c.getD j η with
     |true=>rfl
     |false=>
      have:j∈l7 .any all.toArray c:=by rw[ud];refine⟨by rw[uR (by omega) ε η];exact hl,all[j],by simp[show j<all.length by omega],λe he D=>?_⟩;have hlt:=X j all[j] (by simp[show j<all.length by omega]) e he D;exact jh e.on hlt (by omega)
      rw[hnil]at this;cases this
   ·obtain⟨h1,o,ho,he⟩:=ud.1 hi
    have hil:i<all.length:=by simpa using(cm.1 ho).1
    have R:all[i]?=γ o:=by simpa using ho
    have C:c.getD i η=η:=by rw[uR (by omega) η ε];exact h1
    have hik:i<k:=by
     rcases nG i k with h|h
     ·exact h
     ·exfalso
      have anc0:∀q,((ji all []).getD i 0).testBit q=ε->c.getD q η=ε:=qT (S:=λj=>c.getD j η) (r:=all) (acc:=[]) hc rfl (λj o d=>by simp at d) i o R he;have:=bX.1 hC i (by simpa using hil);rcases Bool.or_eq_true_iff.1 this with h'|h'
      ·rw[bS]at h';omega
      ·exact I λj d=>anc0 j (bX.1 h' j (by simpa using d))
    have u:(items all p)[i]?=γ (items all p)[i]:=cV (by omega);generalize hxg:(items all p)[i]=x at u;have hxo:x.o=o:=by
     simp only[items,DC]at u;split at u
     ·rename_i o' e' h1' h2'
      cases u;rw[R]at h1';cases h1';rfl
     ·cases u
    --ancestors of i are c;those of a c one are c
    have anc:∀q,((ji all []).getD i 0).testBit q=ε->c.getD q η=ε:=qT (S:=λj=>c.getD j η) (r:=all) (acc:=[]) hc rfl (λj o d=>by simp at d) i o R he;have anc':∀j,c.getD j η=ε->j<all.length->∀q,((ji all []).getD j 0).testBit q=ε->c.getD q η=ε:=by intro j d hjl;have hjx:all[j]?=γ all[j]:=cV hjl;exact qT (S:=λj=>c.getD j η) (r:=all) (acc:=[]) hc rfl (λj o d=>by simp at d) j _ hjx (hc.cl j _ hjx d)
    have A:∀(j:O) y,j<i->(items all p)[j]?=γ y->kQ all.toArray y x=ε\/c.getD j η=ε:=by
     intro j y d v;rcases G j i y x d v u with h|h
     ·exact .inr (anc j h)
     ·exact .inl h
    have l:∀(j:O) y,i<j->(items all p)[j]?=γ y->kQ all.toArray x y=ε\/c.getD j η=η:=by
     intro j y d v;rcases G i j x y d u v with h|h
     ·right
      cases hl:c.getD j η with
      |false=>rfl
      |true=>
       have hjl:j<all.length:=by have:=(eV.1 v).1;omega
       have:=anc' j hl hjl i h;rw[C]at this;cases this
     ·exact .inl h
    refine NY hΓ hM ra u st C (λt ht=>?_) (λb D=>?_) (λt ht j y d v z=>?_) (λb D j y d v hwy=>?_) λa'' w'' ν'' st' hd'=>?_
    ·refine sS rfl λj y v z=>?_
     simp only[bF];rcases tY j i with d|d|d
     ·rw[bA d]
      exact(A j y d v).resolve_left λha=>((qS ha).1 t z).1 ht
     ·subst d
      rw[C];simp
     ·rw[eJ (by omega)]
      exact(l j y d v).resolve_left λha=>(qS ha).2 t z ht
    ·refine xv rfl λj y v z=>?_
     simp only[bF];rcases tY j i with d|d|d
     ·rw[bA d]
      exact(A j y d v).resolve_left λha=>((qR ha).1 b z).1 D
     ·subst d
      rw[C];simp
     ·rw[eJ (by omega)]
      exact(l j y d v).resolve_left λha=>(qR ha).2 b z D
    ·rcases l j y d v with h|h
     ·exact aO z ((qS h).1 t ht).2
     ·exact h
    ·rcases l j y d v with h|h
     ·exact aO hwy ((qR h).1 b D).2
     ·exact h
    ·have W:(λj=>(c.setIfInBounds i ε).getD j η)=eL (λj=>c.getD j η) i:=by
      funext j
      simp only[eL];by_cases e:i=j
      ·subst e
       simp[qD,show i<c.size by omega]
      ·rw[wA η e]
       have:(j==i)=η:=by simp;exact λh=>e h.symm
       rw[this,Zp]
     refine ih (c.setIfInBounds i ε) a'' w'' ν'' (by simpa using hs) ?_ ⟨λj o' ho' d e he' D=>?_⟩ (λj d=>by rw[wA η (by omega)];exact B j d) (by rw[W];exact st') (hd'.trans hd)
     ·have hi':i<c.toList.length:=by simp;omega
      have hval:c.toList[i]=η:=by
       have:i<c.size:=by omega
       simp[qD,this]at C;simpa using C
      simp only[Hp];rw[ZY hi'];simp[hval,n]
     ·have hset':∀j,(c.setIfInBounds i ε).getD j η=eL (λj=>c.getD j η) i j:=congrFun W
      rw[hset']at d⊢;simp only[eL,oA,ks]at d⊢;rcases d with d|rfl
      ·exact .inl (hc.cl j o' ho' d e he' D)
      ·rw[R]at ho'
       cases ho';exact .inl (he e he' D)
 have rep:∀j,(r4 all.length η).getD j η=η:=by intro j;rw[qE,OG];split<;>rfl
 refine key all.length _ a w ν (by simp) (by simp) ⟨λj o ho d=>?_⟩ (λj _=>rep j) (NX h _ λj=>rep j) rfl;rw[rep j]at d;cases d
def uB(k:O)(all:E a6):κ:=(dH all.length).all λi=>Θ i k||((ji all []).getD i 0).testBit k
def QZ{P:aF}{Γ:aE}(hΓ:aK P Γ){k:O}{all:E a6}{n:E eW}{M:O->Prop}{w0:υ}{W:Nu}(hM:∀k,w0.heap.size<=k->M k){T:E AV}{H:E AB}{T':E AV}{H':E AB}(r:su P Γ all (all.take k) n T H T' H')(hkl:k<all.length)(hB:jx all n=ε)(hC:uB k all=ε){a:aV}{w:υ}{ν:Nu}{Q:dj->aV->υ->Prop}(h:SR M w0 W T H a w ν)(hD:∀S I w' z,qQ M w0 W T.length H.length (λt=>T.getD t .dead) (λb=>H.getD b .gone) (items all n) S I w' z->I.defers=a.defers->(∀q,((ji all []).getD k 0).testBit q=ε->S q=ε)->∀c,lD P all.toArray Q k c I w'):wpAny P .any all.toArray Q all.length (r4 all.length η) a w:=by
 have rl:n.length=k:=by rw[yR r];simp;omega
 have l:items (all.take k) n=items all n:=by simp only[items];rw[<-rl];exact Dk all n
 have ra:wR P Γ all all n T H T' H':=by have L:=vy r;have:=L.at_;exact⟨by omega,L.Bu,L.xX,by rw[<-l];exact L.at_,by rw[<-l];exact L.uD,by rw[<-l];exact L.AA,by rw[<-l];exact L.base,by rw[<-l];exact L.apart,by rw[<-l];exact L.lt⟩
 have hlen:(items all n).length=k:=by simp[items,rl];omega
 simp only[jx,aM]at hB;obtain⟨hB1,hB2⟩:=hB;have X:∀(i:O) o,all[i]?=γ o->∀e∈o.after,l6 .any e=ε->e.on<i:=λi o ho e he B=>by simpa using EY hB1 i o ho e he B
 have C:∀(i j:O) x y,i<j->(items all n)[i]?=γ x->(items all n)[j]?=γ y->((ji all []).getD j 0).testBit i=ε\/kQ all.toArray x y=ε:=λi j x y hij hx s=>GP hB2 j y s i x (by simpa using hij) (by simpa using hx)
 have key:∀(f:O)(d:aU κ)(I:aV)(w':υ)(z:Nu),d.size=all.length->d.toList.count η=f->D3 all (λj=>d.getD j η)->(∀j,k<=j->d.getD j η=η)->
   qQ M w0 W T.length H.length (λt=>T.getD t .dead) (λb=>H.getD b .gone) (items all n) (λj=>d.getD j η) I w' z->I.defers=a.defers->wpAny P .any all.toArray Q f d I w':=by
  intro f;induction f with
  |zero=>
   intro d I w' z hs D hc G st hd;exfalso;have hne:η∉d.toList:=Dz.1 D;have hks:k<d.size:=by omega
   have h1:=G k (aR _);simp only[qD,hks,dif_pos]at h1;exact hne (by rw[<-h1];simp)
  |succ f ih=>
   intro d I w' z hs D hc G st hd;refine⟨λhnil=>?_,λi hi=>?_⟩
   ·exfalso
    have allT:∀j,j<all.length->d.getD j η=ε:=by
     intro j;induction j using DL with
     |_ j jh=>
      intro g;cases hl:d.getD j η with
      |true=>rfl
      |false=>
       have:j∈l7 .any all.toArray d:=by rw[ud];refine⟨by rw[uR (by omega) ε η];exact hl,all[j],by simp[g],λe he B=>?_⟩;have hlt:=X j all[j] (by simp[g]) e he B;exact jh e.on hlt (by omega)
       rw[hnil]at this;cases this
    have h1:=allT k hkl;rw[G k (aR _)]at h1;cases h1
   ·obtain⟨h1,o,ho,he⟩:=ud.1 hi
    have hil:i<all.length:=by simpa using(cm.1 ho).1
    have N:all[i]?=γ o:=by simpa using ho
    have A:d.getD i η=η:=by rw[uR (by omega) η ε];exact h1
    have R:∀q,((ji all []).getD i 0).testBit q=ε->d.getD q η=ε:=qT (S:=λj=>d.getD j η) (r:=all) (acc:=[]) hc rfl (λj o g=>by simp at g) i o N he;rcases tY i k with hik|rfl|hik
    case inr.inr=>
     exfalso;have:=bX.1 hC i (by simpa using hil);rcases Bool.or_eq_true_iff.1 this with h'|h'
     ·rw[aT]at h';omega
     ·have:=R k h'
      rw[G k (aR _)]at this;cases this
    case inr.inl=>exact hD _ I w' z st hd R _
    have p:(items all n)[i]?=γ (items all n)[i]:=cV (by omega);generalize hxg:(items all n)[i]=x at p;have hxo:x.o=o:=by
     simp only[items,DC]at p;split at p
     ·rename_i o' e' h1' h2'
      cases p;rw[N]at h1';cases h1';rfl
     ·cases p
    --ancestors of i are d;those of a d one are d
    have anc:∀q,((ji all []).getD i 0).testBit q=ε->d.getD q η=ε:=qT (S:=λj=>d.getD j η) (r:=all) (acc:=[]) hc rfl (λj o g=>by simp at g) i o N he;have anc':∀j,d.getD j η=ε->j<all.length->∀q,((ji all []).getD j 0).testBit q=ε->d.getD q η=ε:=by intro j g hjl;have hjx:all[j]?=γ all[j]:=cV hjl;exact qT (S:=λj=>d.getD j η) (r:=all) (acc:=[]) hc rfl (λj o g=>by simp at g) j _ hjx (hc.cl j _ hjx g)
    have v:∀(j:O) y,j<i->(items all n)[j]?=γ y->kQ all.toArray y x=ε\/d.getD j η=ε:=by
     intro j y g s;rcases C j i y x g s p with h|h
     ·exact .inr (anc j h)
     ·exact .inl h
    have m:∀(j:O) y,i<j->(items all n)[j]?=γ y->kQ all.toArray x y=ε\/d.getD j η=η:=by
     intro j y g s;rcases C i j x y g p s with h|h
     ·right
      cases hl:d.getD j η with
      |false=>rfl
      |true=>
       have hjl:j<all.length:=by have:=(eV.1 s).1;omega
       have:=anc' j hl hjl i h;rw[A]at this;cases this
     ·exact .inl h
    refine NY hΓ hM ra p st A (λt ht=>?_) (λb B=>?_) (λt ht j y g s u=>?_) (λb B j y g s hwy=>?_) λa'' w'' ν'' st' hd'=>?_
    ·refine sS rfl λj y s u=>?_
     simp only[bF];rcases tY j i with g|g|g
     ·rw[bA g]
      exact(v j y g s).resolve_left λha=>((qS ha).1 t u).1 ht
     ·subst g
      rw[A];simp
     ·rw[eJ (by omega)]
      exact(m j y g s).resolve_left λha=>(qS ha).2 t u ht
    ·refine xv rfl λj y s u=>?_
     simp only[bF];rcases tY j i with g|g|g
     ·rw[bA g]
      exact(v j y g s).resolve_left λha=>((qR ha).1 b u).1 B
     ·subst g
      rw[A];simp
     ·rw[eJ (by omega)]
      exact(m j y g s).resolve_left λha=>(qR ha).2 b u B
    ·rcases m j y g s with h|h
     ·exact aO u ((qS h).1 t ht).2
     ·exact h
    ·rcases m j y g s with h|h
     ·exact aO hwy ((qR h).1 b B).2
     ·exact h
    ·have U:(λj=>(d.setIfInBounds i ε).getD j η)=eL (λj=>d.getD j η) i:=by
      funext j
      simp only[eL];by_cases e:i=j
      ·subst e
       simp[qD,show i<d.size by omega]
      ·rw[wA η e]
       have:(j==i)=η:=by simp;exact λh=>e h.symm
       rw[this,Zp]
     refine ih (d.setIfInBounds i ε) a'' w'' ν'' (by simpa using hs) ?_ ⟨λj o' ho' g e he' B=>?_⟩ (λj g=>by rw[wA η (by omega)];exact G j g) (by rw[U];exact st') (hd'.trans hd)
     ·have hi':i<d.toList.length:=by simp;omega
      have hval:d.toList[i]=η:=by
       have:i<d.size:=by omega
       simp[qD,this]at A;simpa using A
      simp only[Hp];rw[ZY hi'];simp[hval,D]
     ·have hset':∀j,(d.setIfInBounds i ε).getD j η=eL (λj=>d.getD j η) i j:=congrFun U
      rw[hset']at g⊢;simp only[eL,oA,ks]at g⊢;rcases g with g|rfl
      ·exact .inl (hc.cl j o' ho' g e he' B)
      ·rw[N]at ho'
       cases ho';exact .inl (he e he' B)
 have rep:∀j,(r4 all.length η).getD j η=η:=by intro j;rw[qE,OG];split<;>rfl
 refine key all.length _ a w ν (by simp) (by simp) ⟨λj o ho g=>?_⟩ (λj _=>rep j) (NX h _ λj=>rep j) rfl;rw[rep j]at g;cases g
def EA(k:O)(all:E a6)(args:E cS):κ:=args.all λ
 | .tmp t=>(dH k).all λj=>match all[j]?with
  |some o=>(match o.dst with|some d=> !(ai d t)|none=>ε)||((ji all []).getD k 0).testBit j
  |none=>ε
 |_=>ε
def UT(k:O)(all:E a6):κ:=(dH k).all λj=>((ji all []).getD k 0).testBit j
def Nz{P:aF}{o:a6}{g:bq}{args:aU cS}{b:aU ae}{a:aV}{w:υ}(h:o.op=.call ⟨.value (.func g),args,b⟩)(c:∀args w,(g_ g args).run P w=.ok (.enter g args) w):(dl a.eval o).run P w=.ok (.enter g (args.toList.map a.eval).toArray) w:=by
 have e:(args.map a.eval)=(args.toList.map a.eval).toArray:=by apply fV;simp
 have d:(args.toList.map a.eval).toArray++ #[]=(args.toList.map a.eval).toArray:=by apply fV;simp
 simp[dl,h,kt,Dn,invoke,OE,c]<;>first|exact e|(apply fV;simp)
def amh{P:aF}{Γ:aE}(W:aK P Γ)(B:P.follows .mixedOrders=ε){k id:O}{ops:aU a6}{M:O->Prop}{C:υ}{p:Nu}(hM:∀k,C.heap.size<=k->M k){T:E AV}{H:E AB}{QQ:Ex->E AV->E AB->Prop}(D:(j0 P Γ ops.toList (ops.toList.take k) T H [] λT' H' tr=>cond (jx ops.toList tr.reverse&&uB k ops.toList) (.out .normal T' H') .err).ok QQ){o:a6}{g:bq}{args:aU cS}{ts:aU ae}(ho:ops.toList[k]?=γ o)(hg:o.guard=ζ)(X:o.op=.call ⟨.value (.func g),args,ts⟩)(eg:∀args w,(g_ g args).run P w=.ok (.enter g args) w)(q:EA k ops.toList args.toList=ε){a:aV}{w:υ}{ν:Nu}{Q:dj->aV->υ->Prop}(h:SR M C p T H a w ν)(G:∀T' H',QQ .normal T' H'->∀y w' f (vals:E τ),ax f (args.toList.map (bN T')) vals->(UT k ops.toList=ε->SR M C p T' H' y w' f)->Fr M C w'->aY M w'->y.defers=a.defers->aH P g vals.toArray w' λe I=>∃d,e=.panicked d/\Q (.panic d) y I):(Ht id ops ε).wp P Q a w:=by
 obtain⟨l,T',H',r,s⟩:=xj D;rcases(kZ s).symm with⟨_,s⟩|⟨hc,s⟩
 ·exact s.elim
 rw[aM]at hc;obtain⟨u,L⟩:=hc;have u:jx ops.toList l=ε:=by simpa using u
 have N:k<ops.toList.length:=(eV.1 ho).1;have rl:l.length=k:=by rw[yR r];simp at N⊢;omega
 have ra:=vy r;have c:items (ops.toList.take k) l=items ops.toList l:=by simp only[items];rw[<-rl];exact Dk ops.toList l
 rw[<-Array.toArray_toList (xs:=ops)];have hS':SR M C p T H a {w with drawn:=w.drawn+1} ν:=⟨h.tmps,⟨λi=>(h.heap.br i).of_block λ_ _ _=>rfl,h.heap.sep,h.heap.own,h.heap.lt,h.heap.eC⟩,h.fr.drew,h.b6,h.len,h.le⟩;refine Qt B ?_;have:=QZ (Q:=Q) W hM r N u L hS' λS y w' f U hd m b=>?_
 ·simpa using this
 unfold lD;simp only[tV,ho];rw[aP (by simp[nK,hg])];refine .inl ?_;unfold nJ;rw[Nz X eg];simp only[wq];have R:∀(j:O) x,(items ops.toList l)[j]?=γ x->j<k/\ops.toList[j]?=γ x.o:=by
  intro j x A;simp only[items,DC]at A;split at A
  ·rename_i o' e' h1 s
   cases A;exact⟨by have:=(eV.1 s).1;omega,h1⟩
  ·cases A
 have v:ax f (args.toList.map (bN T')) (args.toList.map y.eval):=sv λz hz=>ld λt ht=>by
  subst ht;have e:T'.getD t .dead=gF S 0 (items ops.toList l) (λt=>T.getD t .dead) t:=by
   rw[ra.uD t,c];refine sS rfl λj x A hdx=>?_
   obtain⟨hjk,hjo⟩:=R j x A;have:=bX.1 (bX.1 q _ hz) j (mM.2 hjk);rw[hjo]at this;simp only[hdx,l5,Bool.not_true,Bool.false_or]at this;rw[bF,m j this]
  rw[e];exact U.tmps t
 refine(G T' H' s y w' f _ v (λhl=>?_) U.fr U.heap.eC hd).mono ?_
 ·have ra2:wR P Γ ops.toList ops.toList l T H T' H':=by have n:=vy r;exact⟨by omega,n.Bu,n.xX,by rw[<-c];exact n.at_,by rw[<-c];exact n.uD,by rw[<-c];exact n.AA,by rw[<-c];exact n.base,by rw[<-c];exact n.apart,by rw[<-c];exact n.lt⟩
  exact G_ ra2 U λj hj=>m j (bX.1 hl j (mM.2 (by omega)))
 ·rintro e I ⟨d,rfl,hq⟩
  exact hq
def M8(p:aQ)(k:O):O->Z:=λm=>if m=k then 0 else if m+4=k then W (p m+p k)else if m+8=k then W (p m-p k)else p m
def kG(p:aQ)(n:O):O->O->Z
 |0=>p
 |d+1=>M8 (kG p n d) (n-1-d)
def Ml(a:aQ)(m:O):Z:=if m=0 then W (0+a 0)else if 17<=m/\m<=23 then W (0+a (24-m))else 0
def aiM(a:aQ):∀k,k<8->kG (Ml a) 25 17 k=jl a k:=by
 refine lf ?_ ?_ ?_ ?_ ?_ ?_ ?_ ?_<;>
  simp[kG,M8,Ml,jl,vc,Oo,YQ,qz,qA,YR,Hg]<;>(congr 1;omega)
def tP(a b:aQ):O->O->Z
 |0=>vZ
 |s+1=>λm=>if m=s/8+s%8 then W (tP a b s m+W (a (s/8)*b (s%8)))else tP a b s m
def apo(a b:aQ):∀m,m<15->tP a b 64 m=W (dm a b m):=by
 iterate 15 refine afy ?_ ?_
 ·exact afz
 all_goals
  simp[tP,dm,Oo,qz,qA]
def amf(p q:aQ)(h:∀m,m<15->p m=W (q m)):kG p 15 7 0=W (q 0-q 8-q 12)/\kG p 15 7 1=W (q 1-q 9-q 13)/\kG p 15 7 2=W (q 2-q 10-q 14)/\kG p 15 7 3=W (q 3-q 11)/\kG p 15 7 4=W (q 4+q 8)/\kG p 15 7 5=W (q 5+q 9)/\kG p 15 7 6=W (q 6+q 10)/\kG p 15 7 7=W (q 7+q 11):=by
 refine⟨?_,?_,?_,?_,?_,?_,?_,?_⟩<;>
  simp[kG,M8,h,qz,qA,YR,Hg]<;>(congr 1;omega)
def apK(a b:aQ):∀k,k<8->kG (tP a b 64) 15 7 k=ep a b k:=by obtain⟨c,d,e,f,g,h,i,j⟩:=amf _ _ (apo a b);exact lf c d e f g h i j
end
end Go.Proofs.YtlmbkhplhkdhlaaGreatDoor
