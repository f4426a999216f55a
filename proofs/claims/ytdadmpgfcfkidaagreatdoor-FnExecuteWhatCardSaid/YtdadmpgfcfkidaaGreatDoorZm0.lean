/- Part 0 of the proof of FnExecuteNoneCard, FnExecuteTwiceCard, FnExecuteWhatCard. -/
import Derived.Orders
import Derived.Tactics
import Derived.Below
import Derived.ProofKit
import Derived.WalkKit
import Derived.Laws.AppendOwn
import Derived.Laws.Rows
import Derived.Laws.Tables
import Derived.KernelRfl
import Derived.Scope
import Derived.Lib.ItoaMem
import Derived.Lib.LaidTab
import Derived.Laws.MakeOwn
import Derived.Laws.OwnMore
import Derived.Great.BuildSlice
import Derived.ChangeKeysEq
import Derived.Laws.StructEq
import Derived.Laws.IdiomStrings
import Derived.Laws.Concat
import Derived.LoopN
import Derived.RowKit
import Derived.Laws.BitsLemmas
set_option maxRecDepth 100000
set_option maxHeartbeats 8000000
set_option linter.defProp false
set_option linter.unusedVariables false
set_option linter.unusedSimpArgs false
open Go renaming Act→a8,Addr→cM,BinOp→ni,Calls→aM,Code→bc,Exit→e9,FloatKind→RV,Func→cb,FuncId→dm,Oper→a_,Operand→cP,Program→bS,ResultVar→Sz,TypeId→ae,Value→τ,World→ψ,asIntOf→tK,callFunc→g_,eqGuard→fK,execOp→dw,grownCap→l9,loadVar→vF,madeCells→TG,maxLen→jB,resolve→lu,setRow_heap→FT,setRow_other→TI,sizeOf→tR,storeCells→TJ,typeInfo→yr,undef→aZ,wpOp→l_,wpOps→tU,zeroValue→FU
open Go.Act renaming eval→RG,put→jx
open Go.Addr renaming add→vn
open _root_ renaming Array→aX,Bool→ξ,ByteArray→ρ,Decidable→RU,False→jy,Int→Z,List→E,Nat→O,Option→χ,UInt8→υ,absurd→aR,guard→qz
open Array renaming getD→rM,getElem?_push→ac7,getElem?_setIfInBounds_ne→ay2,getElem?_toList→ac8,range→RM,replicate→tx,size_setIfInBounds→ac9,toList_map→JM
open Bool renaming or_eq_false_iff→ay6,false→η,true→ε
open Go.Builtin renaming append_→rP,clear_→ac',firstCells→ada,lenOf→adb,len_→RQ,zeroCells→qo
open Go.Call renaming operands→adf
open Go.Code renaming rounds→RR
open Go.Deferred renaming ofValue→Fb
open Go.Exit renaming inBlock→pr
open Go.Instr renaming box→ads,build→l7,buildSlice→adt,extract→RY,fill→ln,index→xU,indexAt→RZ,loadAt→Fe,makeFunc→R0,slice→adv,sliceAt→Ff,sliceBound→JX,sliceBounds→xV,storeAt→adw,sureAddr→Bd
open List renaming filterMap_cons→adT,getD→J3,getElem?_replicate→azh,mem_append_left→azj,mem_append_right→adW,mem_toArray→Bo,range→dK,range'→vt,replicate→eH,toArray→qr
open Nat renaming beq→Ψ,ble→Δ,blt→ω,min→yh
open Go.Op renaming eqFields→aec,equal→Sv,equalIn→pC,maxDepth→Sw,operands→eQ,stringOp→FA
open Go.Oper renaming upon→yi,wp→ot
open Go.Region renaming binds→mH,wanted→ow
open Go.Result renaming andThen_ok→g9
open Go.Result.ok renaming injEq→FG
open Go.Sem renaming run→BA,run_pure→SD
open Go.Value.agg renaming injEq→azD
open Go.Value renaming cells→pE,oneCell'→Kr,slice→gj
open Decidable renaming decide→κ
open Option renaming none→ζ,some→γ
namespace Go.Proofs.YtdadmpgfcfkidaaGreatDoor
noncomputable section
open Go.RowKit
def gg:=@Array.ext'
def rN:=@Array.getD_eq_getD_getElem?
def ac6:=@Array.getElem?_append_left
def cC:=@Array.getElem?_eq_some_iff
def RJ:=@Array.getElem?_replicate
def RL:=@Array.getElem?_setIfInBounds
def lm:=@Array.length_toList
def JN:=@Array.toList_setIfInBounds
def aP:=@Bool.and_eq_true
def jb:=@Bool.and_true
def kg:=@Bool.eq_iff_iff
def tz:=@Bool.false_eq_true
def E':=@Bool.not_eq_true
def g8:=@Bool.not_eq_true'
def po:=@Bool.or_eq_true
def ac_:=@Bool.or_false
def adx:=@Int.le_total
def ady:=@Int.mul_comm
def adz:=@Int.mul_le_mul_of_nonneg_right
def xX:=@Int.tmod_eq_emod_of_nonneg
def adF:=@Int.zero_sub
def gM:=@List.all_append
def gA:=@List.all_cons
def bT:=@List.all_eq_true
def kh:=@List.all_nil
def jN:=@List.append_assoc
def mE:=@List.cons.injEq
def lq:=@List.cons_append
def Fm:=@List.count_eq_zero
def adP:=@List.count_set
def Bi:=@List.drop_drop
def adR:=@List.drop_succ_cons
def J0:=@List.drop_zero
def Sa:=@List.ext_getElem?
def Bm:=@List.foldl_cons
def J4:=@List.getD_cons_succ
def Bn:=@List.getD_cons_zero
def cX:=@List.getD_eq_getElem?_getD
def kN:=@List.getElem?_append_left
def oi:=@List.getElem?_append_right
def vq:=@List.getElem?_cons_succ
def kO:=@List.getElem?_cons_zero
def qq:=@List.getElem?_drop
def df:=@List.getElem?_eq_getElem
def nk:=@List.getElem?_eq_none
def azg:=@List.getElem?_eq_none_iff
def fY:=@List.getElem?_eq_some_iff
def Sf:=@List.getElem?_map
def Sh:=@List.getElem?_set
def nl:=@List.getElem?_take
def vr:=@List.getElem?_toArray
def Fp:=@List.getElem?_zipWith
def yd:=@List.getElem_cons_zero
def J5:=@List.getElem_map
def ki:=@List.getElem_mem
def bN:=@List.length_append
def bZ:=@List.length_cons
def py:=@List.length_drop
def dv:=@List.length_map
def eY:=@List.length_nil
def J7:=@List.length_singleton
def pz:=@List.length_take
def ye:=@List.map_congr_left
def eG:=@List.map_cons
def kQ:=@List.map_nil
def nm:=@List.mem_append
def dE:=@List.mem_cons
def l8:=@List.mem_cons_of_mem
def jA:=@List.mem_cons_self
def J8:=@List.mem_iff_getElem?
def gh:=@List.mem_map
def kj:=@List.mem_of_getElem?
def adZ:=@List.mem_of_mem_drop
def Sl:=@List.mem_of_mem_take
def jO:=@List.nil_append
def ad0:=@List.range'_succ
def ad1:=@List.range_eq_range'
def Fs:=@List.size_toArray
def pA:=@List.take_of_length_le
def Sn:=@List.take_succ_cons
def fZ:=@Nat.add_mul
def So:=@Nat.add_right_comm
def Sq:=@Nat.add_sub_cancel
def Fu:=@Nat.add_sub_cancel_left
def im:=@Nat.add_zero
def mG:=@Nat.beq_refl
def bl:=@Nat.ble_eq
def bM:=@Nat.blt_eq
def vu:=@Nat.div_eq_of_lt
def ad5:=@Nat.div_lt_iff_lt_mul
def cA:=@Nat.eq_of_beq_eq_true
def qs:=@Nat.eq_zero_or_pos
def qt:=@Nat.le_of_ble_eq_true
def ad8:=@Nat.le_of_not_lt
def aQ:=@Nat.le_refl
def cF:=@Nat.le_trans
def ol:=@Nat.lt_irrefl
def eN:=@Nat.lt_of_lt_of_le
def om:=@Nat.lt_or_ge
def fA:=@Nat.lt_succ_self
def vw:=@Nat.lt_trichotomy
def Fv:=@Nat.min_eq_left
def Br:=@Nat.mod_eq_of_lt
def tD:=@Nat.mod_lt
def ad':=@Nat.mul_add_div
def tE:=@Nat.mul_comm
def qu:=@Nat.mul_le_mul
def iY:=@Nat.mul_le_mul_right
def rS:=@Nat.mul_one
def dh:=@Nat.not_lt_zero
def kk:=@Nat.one_mul
def Fz:=@Nat.sub_self
def Bu:=@Nat.sub_zero
def bH:=@Nat.zero_add
def ej:=@Nat.zero_le
def Bv:=@Nat.zero_mul
def Kf:=@Option.bind_some
def iK:=@Option.getD_some
def tG:=@Option.isSome_iff_exists
def dL:=@Option.map_eq_some_iff
def Bw:=@Option.map_some
def aC:=@Option.some.injEq
def cI:=@Prod.mk.injEq
def f_:=@Go.Sem.run_bind
def Tz:=@UInt8.toNat_ofNat'
def aj:=@and_true
def fm:=@beq_iff_eq
def FP:=@Go.calls_of_wp
def be:=@cond_false
def a6:=@cond_true
def tN:=@congrArg
def gN:=@decide_eq_false
def qy:=@decide_eq_false_iff_not
def di:=@decide_eq_true
def aL:=@decide_eq_true_eq
def ym:=@Go.getD_set_ne
def yn:=@getElem!_pos
def TF:=@Go.grownCap_ge
def aeE:=@Go.grownCap_le_maxLen
def tQ:=@if_false
def bI:=@if_neg
def aU:=@if_pos
def qA:=@if_true
def vG:=@Go.mem_ready
def vH:=@not_or
def aV:=@of_decide_eq_true
def oD:=@Go.rounds_succ
def fL:=@Go.run_underlying
def aeG:=@Go.size_zeroCells
def bv:=@true_and
def TL:=@Go.wpOps_cons
def oE:=@Go.wp_loop_rounds
def oF:=@Go.wp_mono
def TM:=@Go.wp_region_any
def yu:=@Go.wp_seq
abbrev Θ:=O->O->Z
abbrev ao:=O->Z
def dc{p:Prop} [RU p](h:p:=by omega):κ p=ε:=di h
def gF{p:Prop} [RU p](h:¬p:=by omega):κ p=η:=gN h
def gc{c:Prop} [RU c]{α:Type}{a b:α}(h:¬c:=by omega):(if c then a else b)=b:=bI h
def oW{c:Prop} [RU c]{α:Type}{a b:α}(h:c:=by omega):(if c then a else b)=a:=aU h
structure Bk where
 n:O
 o:O
 c:O
abbrev Nu:=O->χ Bk
inductive AV where
 |v (x:τ)
 |ptr (i w j k:O)
 |sl (i w j k len:O) (cap:χ O)
 |own (i len:O)
 |agg (cs:E AV)
 |af (cs:E AV)
 |fn (f:dm) (cs:E AV)
 |err (q:ξ)
 |dead
 deriving Inhabited
mutual
def VR(ν:Nu):AV->τ->Prop
 | .v x,y=>y=x
 | .ptr i w j k,y=>∃b,ν i=γ b/\y=.pointer (γ ⟨b.n,b.o+(j*w+k),ζ⟩)
 | .sl i w j k d g,y=>∃p c,y=.slice p d c/\(∀h,g=γ h->c=h)/\d<=c/\(0<c->∃b,ν i=γ b/\p=γ ⟨b.n,b.o+(j*w+k),ζ⟩)
 | .own i d,y=>∃b,ν i=γ b/\y=.slice (γ ⟨b.n,b.o,ζ⟩) d b.c
 | .agg e,y=>∃l,y=.agg (qr l)/\aB ν e l
 | .af e,y=>∃l,y=.tuple (qr l)/\aB ν e l
 | .fn f e,y=>∃l,y=.func (.func f) #[] (qr l)/\aB ν e l
 | .err q,y=>cond q (∃t x,y=.iface t x) (y=.nilIface)
 | .dead,_=>True
def aB(ν:Nu):E AV->E τ->Prop
 |[],[]=>True
 |a::m,y::n=>VR ν a y/\aB ν m n
 |_,_=>jy
end
inductive AB where
 |cells (cs:E AV) (t:ae)
 |row (rw:ξ) (n w:O) (g:O->E τ) (t:ae)
 |gone
 deriving Inhabited
def AB.wr:AB->ξ
 | .cells _ _=>ε
 | .row rw _ _ _ _=>rw
 | .gone=>η
def AB.live:AB->ξ
 | .gone=>η
 |_=>ε
def BR(ν:Nu)(i:O):AB->ψ->Prop
 | .cells e t,w=>∃b l,ν i=γ b/\b.o=0/\w.heap[b.n]?=γ (.cells (qr l) t (0,0))/\aB ν e l
 | .row rw n a g t,w=>(rw=η/\n=0/\ν i=ζ)\/∃b l c d,ν i=γ b/\w.heap[b.n]?=γ (.cells (qr l) c d)/\(rw=ε->d=(0,0)/\b.o=0/\c=t/\l.length=b.c*a/\b.c<=jB)/\n<=b.c/\
  ∀j,j<n->((g j).length=a/\∀x∈g j,x.oneCell'=ε)/\∀k,k<a->l[b.o+(j*a+k)]?=(g j)[k]?
 | .gone,_=>True
def Le(ν a:Nu):Prop:=∀i b,ν i=γ b->a i=γ b
def Le.refl(ν:Nu):Le ν ν:=λ_ _ h=>h
def Le.trans{a b c:Nu}(h:Le a b)(k:Le b c):Le a c:=λi x d=>k i x (h i x d)
mutual
theorem VR.le{ν e:Nu}(h:Le ν e):∀{a:AV}{y:τ},VR ν a y->VR e a y
 | .v _,_,d=>by simpa only[VR]using d
 | .ptr ..,_,d=>by simp only[VR]at d⊢;obtain⟨b,f,g⟩:=d;exact⟨b,h _ _ f,g⟩
 | .sl ..,_,d=>by simp only[VR]at d⊢;obtain⟨p,c,f,g,m,n⟩:=d;exact⟨p,c,f,g,m,λo=>let⟨b,q,r⟩:=n o;⟨b,h _ _ q,r⟩⟩
 | .own ..,_,d=>by simp only[VR]at d⊢;obtain⟨b,f,g⟩:=d;exact⟨b,h _ _ f,g⟩
 | .agg i,_,d=>by simp only[VR]at d⊢;obtain⟨l,f,g⟩:=d;exact⟨l,f,aB.le h g⟩
 | .af i,_,d=>by simp only[VR]at d⊢;obtain⟨l,f,g⟩:=d;exact⟨l,f,aB.le h g⟩
 | .fn _ i,_,d=>by simp only[VR]at d⊢;obtain⟨l,f,g⟩:=d;exact⟨l,f,aB.le h g⟩
 | .err _,_,d=>by simpa only[VR]using d
 | .dead,_,_=>by simp only[VR]
theorem aB.le{ν e:Nu}(h:Le ν e):∀{j:E AV}{k:E τ},aB ν j k->aB e j k
 |[],[],_=>by simp only[aB]
 |_::_,_::_,d=>by simp only[aB]at d⊢;exact⟨VR.le h d.1,aB.le h d.2⟩
 |[],_::_,d=>by simp only[aB]at d
 |_::_,[],d=>by simp only[aB]at d
end
def aB.length{ν:Nu}:∀{b:E AV}{c:E τ},aB ν b c->b.length=c.length
 |[],[],_=>rfl
 |_::_,_::_,a=>by simp only[aB]at a;simp[aB.length a.2]
 |[],_::_,a=>by simp only[aB]at a
 |_::_,[],a=>by simp only[aB]at a
def aB.get{ν:Nu}:∀{c:E AV}{d:E τ}(_:aB ν c d){i:O}{a:AV},c[i]?=γ a->∃y,d[i]?=γ y/\VR ν a y
 |[],[],_,i,a,h=>by simp at h
 |f::c,e::d,b,i,a,h=>by
  simp only[aB]at b;cases i with
  |zero=>simp at h;subst h;exact⟨e,rfl,b.1⟩
  |succ i=>simpa using aB.get b.2 (i:=i) (by simpa using h)
 |[],_::_,b,_,_,_=>by simp only[aB]at b
 |_::_,[],b,_,_,_=>by simp only[aB]at b
def aB.of{ν:Nu}:∀{c:E AV}{d:E τ},c.length=d.length->(∀(i:O) a y,c[i]?=γ a->d[i]?=γ y->VR ν a y)->aB ν c d
 |[],[],_,_=>by simp only[aB]
 |a::c,y::d,b,h=>by simp only[aB];exact⟨h 0 a y rfl rfl,aB.of (by simpa using b) λi e f g j=>h (i+1) e f (by simpa using g) (by simpa using j)⟩
 |[],_::_,b,_=>by simp at b
 |_::_,[],b,_=>by simp at b
def aB.take{ν:Nu}{e:E AV}{f:E τ}(h:aB ν e f)(n:O):aB ν (e.take n) (f.take n):=
 aB.of (by simp[h.length]) λi a y b c=>by
  rw[nl]at b c;split at b
  ·rename_i d
   rw[aU d]at c;obtain⟨k,g,j⟩:=h.get b;rw[g]at c;cases c;exact j
  ·cases b
def aB.drop{ν:Nu}{c:E AV}{d:E τ}(h:aB ν c d)(n:O):aB ν (c.drop n) (d.drop n):=
 aB.of (by simp[h.length]) λi a y e b=>by rw[qq]at e b;obtain⟨j,f,g⟩:=h.get e;rw[f]at b;cases b;exact g
variable {R:Nu}
def aB.append:∀{c bs:E AV}{d zs:E τ},aB R c d->aB R bs zs->aB R (c++bs) (d++zs)
 |[],_,[],_,_,b=>b
 |_::_,_,_::_,_,a,b=>by simp only[aB,lq]at a⊢;exact⟨a.1,a.2.append b⟩
 |[],_,_::_,_,a,_=>by simp only[aB]at a
 |_::_,_,[],_,a,_=>by simp only[aB]at a
def aB.wU{ν:Nu}:∀(l:E τ),aB ν (l.map .v) l
 |[]=>by simp only[aB,kQ]
 |x::l=>by simp only[eG,aB,VR];exact⟨trivial,aB.wU l⟩
mutual
def AV.iH:AV->χ τ
 | .v x=>γ x
 | .agg b=>(AV.nf b).map λl=>.agg l.toArray
 | .af b=>(AV.nf b).map λl=>.tuple l.toArray
 | .fn f []=>γ (.func (.func f) #[] #[])
 |_=>ζ
def AV.nf:E AV->χ (E τ)
 |[]=>γ []
 |a::c=>match AV.iH a,AV.nf c with
  |some x,γ d=>γ (x::d)
  |_,_=>ζ
end
mutual
theorem jd{ν:Nu}:∀{a:AV}{x y:τ},a.iH=γ x->VR ν a y->y=x
 | .v _,_,_,h,b=>by simp only[AV.iH,aC]at h;simp only[VR]at b;rw[b,h]
 | .agg j,_,_,h,b=>by simp only[AV.iH,dL]at h;simp only[VR]at b;obtain⟨l,e,rfl⟩:=h;obtain⟨k,rfl,c⟩:=b;rw[pK e c]
 | .af j,_,_,h,b=>by simp only[AV.iH,dL]at h;simp only[VR]at b;obtain⟨l,e,rfl⟩:=h;obtain⟨k,rfl,c⟩:=b;rw[pK e c]
 | .ptr ..,_,_,h,_=>by simp[AV.iH]at h
 | .sl ..,_,_,h,_=>by simp[AV.iH]at h
 | .own ..,_,_,h,_=>by simp[AV.iH]at h
 | .fn f [],_,_,h,b=>by
  simp only[AV.iH,aC]at h;simp only[VR]at b;obtain⟨l,rfl,c⟩:=b;cases l with
  |nil=>exact h
  |cons=>simp only[aB]at c
 | .fn _ (_::_),_,_,h,_=>by simp[AV.iH]at h
 | .err _,_,_,h,_=>by simp[AV.iH]at h
 | .dead,_,_,h,_=>by simp[AV.iH]at h
theorem pK{ν:Nu}:∀{i:E AV}{g d:E τ},AV.nf i=γ g->aB ν i d->d=g
 |[],g,d,h,b=>by
  simp only[AV.nf,aC]at h;subst h;cases d with
  |nil=>rfl
  |cons _ _=>simp only[aB]at b
 |a::i,g,d,h,b=>by
  cases d with
  |nil=>simp only[aB]at b
  |cons y d=>
   simp only[aB]at b;simp only[AV.nf]at h;split at h
   ·rename_i x m e c
    simp only[aC]at h;subst h;rw[jd e b.1,pK c b.2]
   ·cases h
end
def AV.cells:AV->χ (E AV)
 | .v (.agg b)=>γ (b.toList.map .v)
 | .v (.tuple _)=>ζ
 | .v x=>γ [.v x]
 | .agg c=>γ c
 | .af _=>ζ
 | .dead=>ζ
 |a=>γ [a]
variable {G:E AV}
def Uh{a:AV}{y:τ}(h:a.cells=γ G)(e:VR R a y):aB R G y.cells.toList:=by
 cases a with
 |v x=>
  simp only[VR]at e;subst e;cases y<;>simp only[AV.cells,aC,reduceCtorEq]at h<;>subst h<;>simp only[pE]
  case agg n=>exact aB.wU _
  all_goals simp[aB,VR]
 |agg g=>simp only[AV.cells,aC]at h;subst h;simp only[VR]at e;obtain⟨l,rfl,o⟩:=e;simpa[pE]using o
 |af=>simp[AV.cells]at h
 |dead=>simp[AV.cells]at h
 |ptr i w j k=>simp only[AV.cells,aC]at h;subst h;have d:=e;simp only[VR]at e;obtain⟨b,_,rfl⟩:=e;simp only[pE,aB];exact⟨d,trivial⟩
 |sl i w j k m r=>simp only[AV.cells,aC]at h;subst h;have d:=e;simp only[VR]at e;obtain⟨p,c,rfl,_⟩:=e;simp only[pE,aB];exact⟨d,trivial⟩
 |own i m=>simp only[AV.cells,aC]at h;subst h;have d:=e;simp only[VR]at e;obtain⟨b,_,rfl⟩:=e;simp only[pE,aB];exact⟨d,trivial⟩
 |fn f g=>simp only[AV.cells,aC]at h;subst h;have d:=e;simp only[VR]at e;obtain⟨l,rfl,_⟩:=e;simp only[pE,aB];exact⟨d,trivial⟩
 |err q=>
  simp only[AV.cells,aC]at h;subst h;have d:=e;simp only[VR]at e;cases q
  ·obtain rfl:y=.nilIface:=e
   simp only[pE,aB];exact⟨d,trivial⟩
  ·obtain⟨t,x,rfl⟩:=e
   simp only[pE,aB];exact⟨d,trivial⟩
def AV.flat:AV->ξ
 | .v (.agg _)=>η
 | .v (.tuple _)=>η
 | .v (.bool _)| .v (.int _ _)| .v (.float _ _)| .v (.complex _ _ _)| .v (.string _)| .v (.pointer _)| .v (.slice _ _ _)| .v .nilFunc| .v .nilIface| .v (.func _ _ _)| .v (.iface _ _)| .v (.map _)=>ε
 | .ptr .. | .sl .. | .own .. | .fn .. | .err _=>ε
 |_=>η
def ae7{a:AV}{y:τ}(h:a.flat=ε)(d:VR R a y):y.oneCell'=ε:=by
 cases a with
 |v x=>simp only[VR]at d;subst d;cases y<;>simp_all [AV.flat,Kr]
 |ptr=>simp only[VR]at d;obtain⟨b,_,rfl⟩:=d;rfl
 |sl=>simp only[VR]at d;obtain⟨p,c,rfl,_⟩:=d;rfl
 |own=>simp only[VR]at d;obtain⟨b,_,rfl⟩:=d;rfl
 |fn=>simp only[VR]at d;obtain⟨l,rfl,_⟩:=d;rfl
 |agg=>simp[AV.flat]at h
 |af=>simp[AV.flat]at h
 |err q=>
  simp only[VR]at d;cases q
  ·obtain rfl:y=.nilIface:=d
   rfl
  ·obtain⟨t,x,rfl⟩:=d
   rfl
 |dead=>simp[AV.flat]at h
def m_(P:bS){α:Type}:Sem α->χ α
 | .pure a=>γ a
 | .program k=>m_ P (k P)
 | .mark _ k=>m_ P k
 |_=>ζ
variable {P:bS}
def nX{α:Type}{s:Sem α}{a:α}(h:m_ P s=γ a)(w:ψ):s.run P w=.ok a w:=by
 induction s with
 |pure x=>simp only[m_,aC]at h;subst h;rfl
 |program k b=>simp only[m_]at h;simpa[BA]using b _ h
 |mark m k b=>simp only[m_]at h;simpa[BA]using b h
 |_=>simp[m_]at h
def Ul(l:E τ):Prop:=∃m,l=[.int .i64 m]
def BW(l:E τ):Prop:=∃v,l=[v]/\(v=.nilIface\/∃t x,v=.iface t x)
def Um(l:E τ):Prop:=l=[.iface 309 (.agg #[.pointer (γ ⟨10,41,ζ⟩)])]
def vf:E (O× (E τ->Prop)):=[(2,λl=>l=Lib.pow10Tab.map λz=>Value.int .u64 z),(0,Ul),(8,BW),(9,BW),(5,Um)]
def a4(M:O->Prop)(w:ψ):Prop:=∀x∈vf,¬M x.1/\∃l t a,w.heap[x.1]?=γ (.cells (qr l) t a)/\x.2 l
variable {X:ψ}
def a4.mono{M a:O->Prop}(h:a4 M X)(hM:∀k,k<X.heap.size->a k->M k):a4 a X:=λx c=>by obtain⟨d,l,t,e,b,f⟩:=h x c;refine⟨λg=>d (hM _ ?_ g),l,t,e,b,f⟩;exact(cC.1 b).1
variable {B:O->Prop}
def a4.block{w w':ψ}(h:a4 B w)(c:∀k,k<w.heap.size->¬B k->w'.heap[k]?=w.heap[k]?):a4 B w':=λx d=>by obtain⟨a,l,t,e,b,f⟩:=h x d;exact⟨a,l,t,e,(c _ (cC.1 b).1 a).trans b,f⟩
structure RH (M:O->Prop) (ν:Nu) (H:O->AB) (w:ψ):Prop where
 br:∀i,BR ν i (H i) w
 sep:∀i j b b',i≠j->(H i).wr=ε->(H j).live=ε->ν i=γ b->ν j=γ b'->b.n≠b'.n
 own:∀i b,(H i).wr=ε->ν i=γ b->M b.n
 lt:∀i b,ν i=γ b->b.n<w.heap.size
 eL:a4 M w
structure Fr (M:O->Prop) (w0 w:ψ):Prop where
 os:w.os=w0.os
 tape:w.tape=w0.tape
 output:w.output=w0.output
 size:w0.heap.size<=w.heap.size
 block:∀k,k<w0.heap.size->¬M k->w.heap[k]?=w0.heap[k]?
def Fr.refl(M:O->Prop)(w:ψ):Fr M w w:=⟨rfl,rfl,rfl,aQ _,λ_ _ _=>rfl⟩
def Fr.trans{M:O->Prop}{a b c:ψ}(h:Fr M a b)(k:Fr M b c):Fr M a c:=
 ⟨k.os.trans h.os,k.tape.trans h.tape,k.output.trans h.output,cF h.size k.size,λi d e=>(k.block i (eN d h.size) e).trans (h.block i d e)⟩
def Fr.mono{M c:O->Prop}{a b:ψ}(h:Fr M a b)(e:∀k,k<a.heap.size->M k->c k):Fr c a b:=
 ⟨h.os,h.tape,h.output,h.size,λk d f=>h.block k d λhM=>f (e k d hM)⟩
def Fr.drew{a w:ψ}(h:Fr B a w):Fr B a {w with drawn:=w.drawn+1}:=⟨h.os,h.tape,h.output,h.size,h.block⟩
def a4.fr{M:O->Prop}{w w':ψ}(h:a4 M w)(f:Fr M w w'):a4 M w':=h.block f.block
def Fr.below{w w':ψ}(h:Fr (λ_=>jy) w w'):Below w.heap.size w w':=⟨h.os,h.tape,h.output,h.size,λk a=>h.block k a λf=>f⟩
def Below.fr{w w':ψ}(h:Below w.heap.size w w'):Fr (λ_=>jy) w w':=⟨h.os,h.tape,h.output,h.size,λk a _=>h.block k a⟩
variable {i:O}
def BR.of_block{b:AB}{w w':ψ}(h:BR R i b w)(e:∀k,R i=γ k->b.live=ε->w'.heap[k.n]?=w.heap[k.n]?):BR R i b w':=by
 cases b with
 |cells o t=>obtain⟨b,l,a,c,d,f⟩:=h;exact⟨b,l,a,c,(e b a rfl).trans d,f⟩
 |row rw n p g t=>
  rcases h with h|⟨b,l,j,m,a,c,d⟩
  ·exact .inl h
  ·exact .inr ⟨b,l,j,m,a,(e b a rfl).trans c,d⟩
 |gone=>trivial
def BR.le{ν a:Nu}{i:O}{b:AB}{w:ψ}(f:Le ν a)(j:ν i=ζ->a i=ζ)(h:BR ν i b w):BR a i b w:=by
 cases b with
 |cells p t=>obtain⟨b,l,c,d,e,k⟩:=h;exact⟨b,l,f _ _ c,d,e,k.le f⟩
 |row rw n q g t=>
  rcases h with⟨c,d,e⟩|⟨b,l,m,o,c,d,e⟩
  ·exact .inl ⟨c,d,j e⟩
  ·exact .inr ⟨b,l,m,o,f _ _ c,d,e⟩
 |gone=>trivial
structure Delta where
 val:AV
 rd:E O:=[]
 put:E (O×AB):=[]
 new:E AB:=[]
 aw:E ξ:=[]
def eW(i:O):E (O×AB)->χ AB
 |[]=>ζ
 |p::l=>if p.1=i then γ p.2 else eW i l
def rb{i:O}{b:AB}:∀{l:E (O×AB)},eW i l=γ b->(i,b)∈l
 |[],h=>by simp[eW]at h
 |p::l,h=>by
  simp only[eW]at h;split at h
  ·rename_i e;cases h;subst e;exact jA
  ·exact l8 _ (rb h)
def YY{i:O}:∀{l:E (O×AB)},eW i l=ζ->∀p∈l,p.1≠i
 |[],_=>by simp
 |p::l,h=>by
  simp only[eW]at h;split at h
  ·cases h
  ·rename_i e
   intro q a;rcases dE.1 a with rfl|a
   ·exact e
   ·exact YY h q a
structure ey (ν ν':Nu) (base:O) (δ:Delta) (w w':ψ) (v:τ):Prop where
 le:Le ν ν'
 cg:∀i,ν i=ζ->ν' i≠ζ->base<=i/\i<base+δ.new.length
 val:VR ν' δ.val v
 put:∀i b,eW i δ.put=γ b->BR ν' i b w'
 new:∀j b,δ.new[j]?=γ b->BR ν' (base+j) b w'
 os:w'.os=w.os
 tape:w'.tape=w.tape
 output:w'.output=w.output
 size:w.heap.size<=w'.heap.size
 block:∀k,k<w.heap.size->(∀p b,p∈δ.put->ν p.1=γ b->b.n≠k)->w'.heap[k]?=w.heap[k]?
 fresh:∀j b,j<δ.new.length->ν' (base+j)=γ b->b.n<w'.heap.size/\(w.heap.size<=b.n\/∃i b0,eW i δ.put=γ AB.gone/\ν i=γ b0/\b0.n=b.n)
 apart:∀j j' b b',j≠j'->j<δ.new.length->j'<δ.new.length->ν' (base+j)=γ b->ν' (base+j')=γ b'->b.n≠b'.n
def kp(base:O)(δ:Delta)(H:O->AB):O->AB:=λi=>if base<=i/\i<base+δ.new.length then δ.new.getD (i-base) .gone else(eW i δ.put).getD (H i)
variable {j:Delta}
def RH.step{ν C:Nu}{H:O->AB}{w w':ψ}{v:τ}(h:RH B ν H w)(hM:∀k,w.heap.size<=k->B k)(d:ey ν C i j w w' v)(l:∀p∈j.put,(H p.1).wr=ε)(_:∀c,c<j.new.length->ν (i+c)=ζ):RH B C (kp i j H) w':=by
 have r:∀a,¬(i<=a/\a<i+j.new.length)->∀b,C a=γ b->ν a=γ b:=by
  intro a f b o;cases hn:ν a with
  |none=>exact aR (d.cg a hn (by rw[o];simp)) f
  |some s=>rw[d.le _ _ hn]at o;exact o
 have g:∀a,i<=a/\a<i+j.new.length->∃c,c<j.new.length/\a=i+c:=λa f=>⟨a-i,by omega,by omega⟩
 have q:∀b:AB,b.wr=ε->b.live=ε:=λb o=>by cases b<;>simp_all [AB.wr,AB.live]
 have t:∀a,¬(i<=a/\a<i+j.new.length)->((kp i j H) a).wr=ε->(H a).wr=ε:=by
  intro a f u;simp only[kp,bI f]at u;cases L:eW a j.put with
  |none=>simpa[L]using u
  |some b=>exact l _ (rb L)
 have m:∀a,¬(i<=a/\a<i+j.new.length)->((kp i j H) a).live=ε->(H a).live=ε:=by
  intro a f u;simp only[kp,bI f]at u;cases L:eW a j.put with
  |none=>simpa[L]using u
  |some b=>exact q _ (l _ (rb L))
 have n:∀a,¬(i<=a/\a<i+j.new.length)->((kp i j H) a).live=ε->∀A s b,ν a=γ b->eW A j.put=γ .gone->ν A=γ s->s.n≠b.n:=by
  intro a f u A s b o N R;have S:A≠a:=by rintro rfl;simp only[kp,bI f,N,iK,AB.live]at u;cases u
  exact h.sep A a s b S (l _ (rb N)) (m a f u) R o
 refine⟨λa=>?_,?_,?_,?_,h.eL.block λk hk hm=>d.block k hk λp b hp o e=>hm (e▸h.own p.1 b (l p hp) o)⟩
 ·by_cases f:i<=a/\a<i+j.new.length
  ·obtain⟨c,D,rfl⟩:=g a f
   simp only[kp,aU f,Fu];have:j.new[c]?=γ j.new[c]:=by simp[D]
   rw[cX,this];exact d.new c _ this
  ·simp only[kp,bI f]
   cases L:eW a j.put with
   |some b=>exact d.put _ _ L
   |none=>
    refine((h.br a).of_block λk hk T=>d.block k.n (h.lt a k hk) ?_).le d.le ?_
    ·intro p b hp o
     exact h.sep p.1 a b k (YY L p hp) (l p hp) T o hk
    ·intro hn
     cases hn':C a with
     |none=>rfl
     |some z=>exact aR (d.cg a hn (by rw[hn'];simp)) f
 ·intro a c b U S X M G I
  by_cases f:i<=a/\a<i+j.new.length
  ·obtain⟨x,W,rfl⟩:=g a f
   by_cases D:i<=c/\c<i+j.new.length
   ·obtain⟨y,hy,rfl⟩:=g c D
    exact d.apart x y b U (by omega) W hy G I
   ·have P:=r c D U I
    rcases(d.fresh x b W G).2 with hf|⟨A,s,N,R,h3⟩
    ·have:=h.lt c U P
     omega
    ·rw[<-h3]
     exact n c D M A s U P N R
  ·by_cases D:i<=c/\c<i+j.new.length
   ·obtain⟨y,hy,rfl⟩:=g c D
    have Q:=r a f b G;rcases(d.fresh y U hy I).2 with hf|⟨A,s,N,R,h3⟩
    ·have:=h.lt a b Q
     omega
    ·rw[<-h3]
     exact(n a f (q _ X) A s b Q N R).symm
   ·exact h.sep a c b U S (t a f X) (m c D M) (r a f b G) (r c D U I)
 ·intro a b u o
  by_cases f:i<=a/\a<i+j.new.length
  ·obtain⟨x,W,rfl⟩:=g a f
   rcases(d.fresh x b W o).2 with hf|⟨A,s,N,R,h3⟩
   ·exact hM _ hf
   ·rw[<-h3];exact h.own A s (l _ (rb N)) R
  ·exact h.own a b (t a f u) (r a f b o)
 ·intro a b o
  by_cases f:i<=a/\a<i+j.new.length
  ·obtain⟨x,W,rfl⟩:=g a f
   exact(d.fresh x b W o).1
  ·exact eN (h.lt a b (r a f b o)) d.size
def BI(ν:Nu)(δ:Delta)(w:ψ):O->Prop:=λk=>w.heap.size<=k\/∃i b c,(i,c)∈δ.put/\ν i=γ b/\k=b.n
def RH.Gt{H:O->AB}(h:RH B R H X)(hM:∀k,X.heap.size<=k->B k)(a:∀p∈j.put,(H p.1).wr=ε):a4 (BI R j X) X:=
 h.eL.mono λk _ c=>c.elim (hM k) λ⟨i,b,_,d,e,f⟩=>f▸h.own i b (a _ d) e
def a4.call{δ a:Delta}(h:a4 (BI R δ X) X)(d:∀x∈a.put,x∈δ.put):a4 (BI R a X) X:=
 h.mono λ_ _ e=>e.imp id λ⟨i,b,c,f,g⟩=>⟨i,b,c,d _ f,g⟩
def ey.fr{M:O->Prop}{ν c:Nu}{H:O->AB}{g w w':ψ}{v:τ}(h:RH M ν H w)(d:ey ν c i j w w' v)(a:∀p∈j.put,(H p.1).wr=ε)(f:Fr M g w):Fr M g w':=
 f.trans ⟨d.os,d.tape,d.output,d.size,λk l m=>d.block k l λp b n o e=>m (e▸h.own p.1 b (a p n) o)⟩
def vZ(P:bS)(t:ae):χ ξ:=
 match P.underlying t with
 |some (.struct _)=>γ ε
 |some (.array _ _)=>γ ε
 |some _=>γ η
 |none=>ζ
def lh(P:bS)(t:ae):χ O:=(P.info? t).map (·.size)
variable {N:ae}
variable {q:ξ}
def Av(h:vZ P N=γ q)(w:ψ):(isAgg N).run P w=.ok q w:=by
 unfold vZ at h;unfold isAgg;cases a:P.underlying N with
 |none=>simp[a]at h
 |some d=>rw[a]at h;cases d<;>simp at h<;>subst h<;>simp[fL a]
def pd(h:lh P N=γ i)(w:ψ):(tR N).run P w=.ok i w:=by
 unfold lh at h;cases b:P.info? N with
 |none=>simp[b]at h
 |some a=>simp[b]at h;subst h;simp[tR,yr,b]
def iC{α:Type}:E α->O->E α->E α
 |l,0,b=>b++l.drop b.length
 |[],_+1,_=>[]
 |a::l,n+1,b=>a::iC l n b
def xA{α:Type}:∀(l:E α)(n:O)(xs:E α),n<=l.length->iC l n xs=l.take n++xs++l.drop (n+xs.length)
 |l,0,xs,_=>by cases l<;>simp[iC]
 |[],n+1,_,h=>by simp at h
 |a::l,n+1,xs,h=>by simp only[iC,Sn,lq];rw[xA l n xs (by simpa using h),So,adR]
def QT{α:Type}(l:E α)(n:O)(xs:E α)(h:n+xs.length<=l.length):(iC l n xs).length=l.length:=by rw[xA l n xs (by omega)];simp;omega
def Ew{α:Type}(l:E α)(n:O)(xs:E α)(h:n+xs.length<=l.length)(k:O):(iC l n xs)[k]?=if n<=k/\k<n+xs.length then xs[k-n]?else l[k]?:=by
 rw[xA l n xs (by omega),jN];by_cases a:k<n
 ·rw[kN (by simp;omega),gc,nl,aU a]
 ·rw[oi (by simp;omega)]
  simp only[pz,Fv (show n<=l.length by omega)];by_cases b:k<n+xs.length
  ·rw[aU ⟨by omega,b⟩,kN (by omega)]
  ·rw[gc,oi (by omega),qq]
   congr 1
   omega
def aB.iC{ν:Nu}:∀{b:E AV}{c:E τ}(n:O){bs:E AV}{zs:E τ},aB ν b c->aB ν bs zs->aB ν (iC b n bs) (Go.Proofs.YtdadmpgfcfkidaaGreatDoor.iC c n zs)
 |b,c,0,bs,zs,h,k=>by
  have:∀{e:Type}(l d:E e),Go.Proofs.YtdadmpgfcfkidaaGreatDoor.iC l 0 d=d++l.drop d.length:=λl d=>by cases l<;>rfl
  rw[this,this,k.length];exact k.append (h.drop _)
 |[],[],n+1,_,_,_,_=>by simp only[Go.Proofs.YtdadmpgfcfkidaaGreatDoor.iC,aB]
 |a::b,y::c,n+1,_,_,h,k=>by simp only[aB,Go.Proofs.YtdadmpgfcfkidaaGreatDoor.iC]at h⊢;exact⟨h.1,aB.iC n h.2 k⟩
 |[],_::_,_+1,_,_,h,_=>by simp only[aB]at h
 |_::_,[],_+1,_,_,h,_=>by simp only[aB]at h
def addr_add(n o j:O):(⟨n,o,ζ⟩:cM).add j=⟨n,o+j,ζ⟩:=by unfold vn;split<;>simp_all
def oL{l:E τ}{a:O×O}(h:X.heap[i]?=γ (.cells l.toArray N a))(o:O):X.cell? ⟨i,o,ζ⟩=l[o]?:=by simp[World.cell?,h]
def abl{n o:O}{x:τ}(a:vZ P N=γ η)(h:X.cell? ⟨n,o,ζ⟩=γ x):(Fe N (.pointer (γ ⟨n,o,ζ⟩))).run P X=.ok x X:=by simp[Fe,Bd,vF,Av a,load,BA,h]
def abk{n o s:O}{xs:E τ}(a:vZ P N=γ ε)(hs:lh P N=γ s)(b:xs.length=s)(h:∀j x,xs[j]?=γ x->X.cell? ⟨n,o+j,ζ⟩=γ x):(Fe N (.pointer (γ ⟨n,o,ζ⟩))).run P X=.ok (.agg xs.toArray) X:=by subst b;have:=run_loadCells_list (P:=P) X ⟨n,o,ζ⟩ xs (λj x c=>by rw[addr_add];exact h j x c);simp[Fe,Bd,vF,Av a,pd hs,this]
def wN(P:bS)(H:E AB)(t:ae)(a:AV):χ Delta:=
 match a with
 | .ptr i w j k=>
  match vZ P t,lh P t,H.getD i .gone with
  |some ε,γ s,.cells d _=>if j*w+k+s<=d.length then γ {val:=.agg ((d.drop (j*w+k)).take s),rd:=[i]}else ζ
  |some η,γ _,.cells d _=>(d[j*w+k]?).map λc=>{val:=c,rd:=[i]}
  |some ε,γ s,.row _ n f g _=>if f=w/\k+s<=w then γ {val:=.v (.agg (((g j).drop k).take s).toArray),rd:=[i],aw:=[κ (j<n)]}else ζ
  |some η,γ _,.row _ n f g _=>if f=w/\k<w then γ {val:=.v ((g j).getD k aZ),rd:=[i],aw:=[κ (j<n)]}else ζ
  |_,_,_=>ζ
 |_=>ζ
def aJ(l:E ξ):ξ:=l.all id
def ey.same{v:τ}(l:VR R j.val v)(m:j.put=[])(e:j.new=[]):ey R R i j X X v where
 le:=Le.refl _
 cg:=λc h n=>aR h n
 val:=l
 put:=by rw[m];intro c b h;simp[eW]at h
 new:=by rw[e];intro a b h;simp at h
 os:=rfl
 tape:=rfl
 output:=rfl
 size:=aQ _
 block:=λ_ _ _=>rfl
 fresh:=by rw[e];intro a b h;simp at h
 apart:=by rw[e];intro a t b u _ h;simp at h
variable {S:E AB}
def YW{a:AV}(h:wN P S N a=γ j):j.put=[]/\j.new=[]:=by
 unfold wN at h
 repeat(first|split at h|(simp only[dL]at h;obtain⟨c,_,rfl⟩:=h;exact⟨rfl,rfl⟩)|(simp only[aC]at h;subst h;exact⟨rfl,rfl⟩)|cases h)
def YX{a:AV}{y:τ}(h:wN P S N a=γ j)(t:aJ j.aw=ε)(w:VR R a y)(G:∀i∈j.rd,BR R i (S.getD i .gone) X):∃x,(Fe N y).run P X=.ok x X/\VR R j.val x:=by
 unfold wN at h;split at h
 ·rename_i i H d k
  simp only[VR]at w;obtain⟨b,I,rfl⟩:=w;split at h
  ·rename_i s cs ct p B r
   split at h
   ·rename_i f
    simp only[aC]at h;subst h;have e:=G i (by simp);rw[r]at e;obtain⟨L,l,o,u,C,A⟩:=e;rw[I]at o;cases o;rw[u,bH];have hll:=A.length;refine⟨_,abk (xs:=(l.drop (d*H+k)).take s) p B (by simp;omega) ?_,?_⟩
    ·intro q x m
     rw[oL C];rw[nl]at m;split at m
     ·rwa [qq]at m
     ·cases m
    ·simp only[VR]
     exact⟨_,rfl,(A.drop _).take _⟩
   ·cases h
  ·rename_i s cs ct p B r
   simp only[dL]at h;obtain⟨c,hc,rfl⟩:=h;have e:=G i (by simp);rw[r]at e;obtain⟨L,l,o,u,C,A⟩:=e;rw[I]at o;cases o;rw[u,bH];obtain⟨x,m,M⟩:=A.get hc;exact⟨x,abl p ((oL C _).trans m),M⟩
  ·rename_i s Q n T g gt p B r
   split at h
   ·rename_i f
    obtain⟨rfl,f⟩:=f;simp only[aC]at h;subst h;have v:d<n:=by simpa[aJ]using t
    have e:=G i (by simp);rw[r]at e;rcases e with⟨_,h0,_⟩|⟨L,l,t',fz,o,u,C,A,U⟩
    ·omega
    rw[I]at o;cases o;obtain⟨⟨D,W⟩,z⟩:=U d v;refine⟨_,abk (xs:=((g d).drop k).take s) p B (by simp;omega) ?_,?_⟩
    ·intro q x m
     rw[nl]at m;split at m
     ·rename_i hq
      rw[qq]at m;rw[oL u,show b.o+(d*T+k)+q=b.o+(d*T+(k+q)) by omega,z (k+q) (by omega)];exact m
     ·cases m
    ·simp only[VR]
   ·cases h
  ·rename_i s Q n T g gt p B r
   split at h
   ·rename_i f
    obtain⟨rfl,f⟩:=f;simp only[aC]at h;subst h;have v:d<n:=by simpa[aJ]using t
    have e:=G i (by simp);rw[r]at e;rcases e with⟨_,h0,_⟩|⟨L,l,t',fz,o,u,C,A,U⟩
    ·omega
    rw[I]at o;cases o;obtain⟨⟨D,W⟩,z⟩:=U d v;refine⟨(g d).getD k aZ,abl p ?_,by simp only[VR]⟩;rw[oL u,z k f];simp[J3,D,f]
   ·cases h
  ·cases h
 ·cases h
def Qx{n o s:O}{l vs:E τ}{t:ae}{y:τ}(hs:lh P N=γ s)(b:vs.length=s)(a:y.cells.toList=vs)(h:X.heap[n]?=γ (.cells l.toArray t (0,0)))(c:o+s<=l.length)(d:∀v∈vs,v.oneCell'=ε):(adw N (.pointer (γ ⟨n,o,ζ⟩)) y).run P X=.ok () (X.setRow n (iC l o vs).toArray):=by
 subst b;have H:=run_storeCells_at P n o t vs 0 l.toArray X h (by simpa using c) d;have e:y.cells.size=vs.length:=by rw[<-a];simp
 simp only[adw,Bd,storeVar];rw[xA l o vs (by omega)];simp only[im]at H;simp[pd hs,e,a,H]
def O9(c:ξ)(x y:τ):τ:=
 match x,y with
 | .int k a,.int d b=>if k=d then .int k (bif c then a else b)else bif c then x else y
 | .bool a,.bool b=>.bool (bif c then a else b)
 | .string a,.string b=>.string (bif c then a else b)
 |_,_=>bif c then x else y
def anQ(c:ξ)(x y:τ):O9 c x y=bif c then x else y:=by
 unfold O9;split
 ·split
  ·rename_i e
   subst e;cases c<;>rfl
  ·rfl
 ·cases c<;>rfl
 ·cases c<;>rfl
 ·rfl
def lR(c:ξ):E τ->E τ->E τ
 |[],[]=>[]
 |x::a,y::b=>O9 c x y::lR c a b
 |a,b=>bif c then a else b
def rg(c:ξ):∀(xs a:E τ),lR c xs a=bif c then xs else a
 |[],[]=>by cases c<;>rfl
 |[],y::a=>rfl
 |x::xs,[]=>rfl
 |x::xs,y::a=>by rw[lR,anQ,rg c xs a];cases c<;>rfl
def yY:E AV->χ (E ξ)
 |[]=>γ []
 | .v (.bool b)::l=>match yY l with
  |some a=>γ (b::a)
  |none=>ζ
 |_=>ζ
def UD:AV->E AV->χ (ξ×E ξ)
 | .v (.bool c),a::b::l=>match yY (a::b::l)with
  |some d=>γ (c,d)
  |none=>ζ
 |_,_=>ζ
def u2(p:O)(c:ξ):O->E ξ->E AV
 |_,[]=>[]
 |q,b::a=>.v (.bool (bif Ψ q p then c else b))::u2 p c (q+1) a
def UC:∀{cs:E AV}{bs:E ξ},yY cs=γ bs->cs=bs.map λb=>.v (.bool b)
 |[],bs,h=>by simp only[yY,aC]at h;subst h;rfl
 |a::l,bs,h=>by
  unfold yY at h;split at h
  ·simp_all
  ·rename_i b f e
   cases e;split at h
   ·rename_i c d
    cases h;rw[UC d];rfl
   ·cases h
  ·cases h
def UE{ν:Nu}:∀{bs:E ξ}{l:E τ},aB ν (bs.map λb=>.v (.bool b)) l->l=bs.map .bool
 |[],[],_=>rfl
 |b::bs,y::a,h=>by simp only[eG,aB,VR]at h;rw[h.1,UE h.2];rfl
 |[],_::_,h=>by simp only[kQ,aB]at h
 |_::_,[],h=>by simp only[eG,aB]at h
def abt{ν:Nu}{p:O}{c:ξ}:∀{bs:E ξ}{q:O},p<q->aB ν (u2 p c q bs) (bs.map .bool)
 |[],_,_=>by simp only[u2,kQ,aB]
 |b::bs,q,h=>by
  have e:Ψ q p=η:=by
   cases a:Ψ q p with
   |false=>rfl
   |true=>have:=cA a;omega
  simp only[u2,eG,aB,VR,e,be,bv];exact abt (by omega)
def abu{ν:Nu}{p:O}{c:ξ}:∀{bs:E ξ}{q:O},q<=p->p-q<bs.length->aB ν (u2 p c q bs) (iC (bs.map .bool) (p-q) [.bool c])
 |[],_,_,h=>by simp at h
 |b::bs,q,d,f=>by
  rcases Nat.eq_or_lt_of_le d with rfl|a
  ·simp only[Fz,u2,eG,iC,bZ,eY,lq,jO,bH,adR,J0,aB,VR,mG,a6,bv]
   exact abt (fA _)
  ·have e:Ψ q p=η:=by
    cases g:Ψ q p with
    |false=>rfl
    |true=>have:=cA g;omega
   rw[show p-q=(p-(q+1))+1 by omega];simp only[u2,eG,iC,aB,VR,e,be,bv];exact abu a (by simp only[bZ]at f;omega)
def QZ(P:bS)(H:E AB)(t:ae)(a x:AV):χ Delta:=
 match a,x.cells,lh P t with
 | .ptr i w j k,γ e,γ s=>
  if e.length=s/\e.all AV.flat=ε then
   match H.getD i .gone with
   | .cells h f=>(match UD x h with
    |some (c,m)=>γ {val:=.v aZ,rd:=[i],put:=[(i,.cells (u2 (j*w+k) c 0 m) f)],aw:=[ω (j*w+k) m.length]}
    |none=>if j*w+k+s<=h.length then γ {val:=.v aZ,rd:=[i],put:=[(i,.cells (iC h (j*w+k) e) f)]}else ζ)
   | .row ε n p g f=>
    if p=w/\k+s<=w then
     match AV.nf e with
     |some r=>γ {val:=.v aZ,rd:=[i],put:=[(i,.row ε n p (λq=>lR (Ψ q j) (iC (g j) k r) (g q)) f)],aw:=[κ (j<n)]}
     |none=>ζ
    else ζ
   |_=>ζ
  else ζ
 |_,_,_=>ζ
def an5{w j q k m:O}(h:j≠q)(b:k<w)(c:m<w):j*w+k≠q*w+m:=by
 intro e;have a:(j*w+k)/w=j:=by rw[tE,ad' (by omega),vu b,im]
 have d:(q*w+m)/w=q:=by rw[tE,ad' (by omega),vu c,im]
 rw[e,d]at a;exact h a.symm
def auv{a x:AV}{y z:τ}{base:O}(h:QZ P S N a x=γ j)(ho:aJ j.aw=ε)(hv:VR R a y)(r:VR R x z)(hr:∀i∈j.rd,BR R i (S.getD i .gone) X):∃w',(adw N y z).run P X=.ok () w'/\ey R R base j X w' aZ:=by
 unfold QZ at h;split at h
 ·rename_i i wd d k xs s hc hs
  simp only[VR]at hv;obtain⟨b,M,rfl⟩:=hv;split at h
  ·rename_i Q
   obtain⟨B,Q⟩:=Q;have C:=Uh hc r;have u:z.cells.toList.length=s:=by rw[<-C.length];exact B
   have h1:∀v∈z.cells.toList,v.oneCell'=ε:=by
    intro v hvm;obtain⟨q,f⟩:=J8.1 hvm;have hql:q<xs.length:=by rw[C.length];exact(fY.1 f).1
    obtain⟨v',D,G⟩:=C.get (df hql);rw[f]at D;cases D;exact ae7 (bT.1 Q _ (ki hql)) G
   have T:∀(bn:AB)(l:E τ)(ty:ae),X.heap[b.n]?=γ (.cells l.toArray ty (0,0))->∀l':E τ,(BR R i bn (X.setRow b.n l'.toArray))->∀I:Delta,I.val=.v aZ->I.put=[(i,bn)]->I.new=[]->
     ey R R base I X (X.setRow b.n l'.toArray) aZ:=by
    intro bn l ty hh l' hbr I hv1 hp1 U;refine⟨Le.refl _,λq h h'=>aR h h',by rw[hv1];simp only[VR],?_,by rw[U];intro q bb f;simp at f,rfl,rfl,rfl,by simp,?_,by rw[U];intro q bb f;simp at f,by rw[U];intro q q' bb bb' _ f;simp at f⟩
    ·rw[hp1]
     intro q bb f;simp only[eW]at f;split at f
     ·rename_i e;subst e;cases f;exact hbr
     ·cases f
    ·intro q f hne
     refine TI _ _ _ _ ?_;have:=hne (i,bn) b (by rw[hp1];simp) M;exact λe=>this e.symm
   split at h
   ·rename_i cs ty hH
    split at h
    ·rename_i c bs A
     simp only[aC]at h;subst h;have hp:d*wd+k<bs.length:=by simpa[aJ]using ho
     have o:=hr i (by simp);rw[hH]at o;obtain⟨b',l,D,G,L,W⟩:=o;rw[M]at D;cases D;rw[G,bH];have hx2:x=.v (.bool c)/\yY cs=γ bs:=by
      unfold UD at A;split at A
      ·split at A
       ·rename_i f
        cases A;exact⟨rfl,f⟩
       ·cases A
      ·cases A
     obtain⟨rfl,f⟩:=hx2;rw[UC f]at W;have hl:=UE W;subst hl;simp only[AV.cells,aC]at hc;subst hc;simp only[VR]at r;subst r;simp only[bZ,eY,bH]at B;subst B;refine⟨_,Qx hs u rfl L (by simp only[dv];omega) h1,T _ _ _ L _ ?_ _ rfl rfl rfl⟩;refine⟨b,_,M,G,FT _ _ _ _ _ _ L,?_⟩;have:=abu (ν:=R) (c:=c) (bs:=bs) (p:=d*wd+k) (q:=0) (ej _) (by simpa using hp);simpa[pE]using this
    ·split at h
     ·rename_i t
      simp only[aC]at h;subst h;have o:=hr i (by simp);rw[hH]at o;obtain⟨b',l,D,G,L,W⟩:=o;rw[M]at D;cases D;rw[G,bH];have hll:=W.length;refine⟨_,Qx hs u rfl L (by omega) h1,T _ l _ L _ ?_ _ rfl rfl rfl⟩;exact⟨b,_,M,G,FT _ _ _ _ _ _ L,aB.iC _ W C⟩
     ·cases h
   ·rename_i n w' g ty hH
    split at h
    ·rename_i t
     obtain⟨rfl,t⟩:=t;split at h
     ·rename_i vs hvs
      simp only[aC]at h;subst h;have hjn:d<n:=by simpa[aJ]using ho
      have w:=pK hvs C;have o:=hr i (by simp);rw[hH]at o;rcases o with⟨_,h0,_⟩|⟨b',l,t',fz,D,G,L,W,e5⟩
      ·omega
      rw[M]at D;cases D;obtain⟨rfl,eo,rfl,el,ec⟩:=L rfl;rw[eo,bH];have hmul:(d+1)*w'<=b.c*w':=iY _ (by omega);rw[fZ,kk]at hmul;have hvl:vs.length=s:=by rw[<-w];exact u
      refine⟨_,Qx hs u rfl G (by omega) h1,T _ l _ G _ ?_ _ rfl rfl rfl⟩;have hsl:(iC l (d*w'+k) z.cells.toList).length=l.length:=QT _ _ _ (by omega);refine .inr ⟨b,_,_,_,M,FT _ _ _ _ _ _ G,λ_=>⟨rfl,eo,rfl,by rw[hsl];exact el,ec⟩,W,?_⟩;intro q f;obtain⟨⟨hg1,H⟩,hg2⟩:=e5 q f;obtain⟨⟨hj1,hj3⟩,hj2⟩:=e5 d hjn;by_cases hqj:q=d
      ·subst hqj
       simp only[rg,mG,a6];refine⟨⟨by rw[QT _ _ _ (by omega)];exact hg1,λx r=>?_⟩,λm hm=>?_⟩
       ·rw[xA _ _ _ (by omega)]at r
        simp only[nm]at r;rcases r with(r|r)|r
        ·exact H x (Sl r)
        ·exact h1 x (by rw[w];exact r)
        ·exact H x (adZ r)
       rw[Ew _ _ _ (by omega),Ew _ _ _ (by omega),eo,bH,u,w,hvl];by_cases hin:k<=m/\m<k+s
       ·rw[oW,aU hin]
        congr 1
        omega
       ·rw[gc,bI hin]
        have:=hg2 m hm
        rwa [eo,bH]at this
      ·have hbq:Ψ q d=η:=by
        cases hbq:Ψ q d with
        |true=>exact aR (cA hbq) hqj
        |false=>rfl
       simp only[rg,hbq,be];refine⟨⟨hg1,H⟩,λm hm=>?_⟩;rw[Ew _ _ _ (by omega),eo,bH,u,bI ?_]
       ·have:=hg2 m hm
        rwa [eo,bH]at this
       ·rintro⟨c1,c2⟩
        have:d*w'+k+(q*w'+m-(d*w'+k))=q*w'+m:=by omega
        exact an5 (w:=w') (j:=q) (q:=d) (k:=m) (m:=k+(q*w'+m-(d*w'+k))) hqj hm (by omega) (by omega)
     ·cases h
    ·cases h
   ·cases h
  ·cases h
 ·cases h
def kd(ν:Nu)(i:O)(b:Bk):Nu:=λj=>if j=i then γ b else ν j
def jL(ν:Nu)(i:O)(b:Bk):kd ν i b i=γ b:=by simp[kd]
def JC{b:Bk}(h:R i=ζ):Le R (kd R i b):=by
 intro j x a;have:j≠i:=by rintro rfl;rw[h]at a;cases a
 simp[kd,this,a]
def ey.one{w w':ψ}{v:τ}{b:AB}{k:Bk}(y:R i=ζ)(n:j.new=[b])(z:k.n<w'.heap.size/\(w.heap.size<=k.n\/∃d u,eW d j.put=γ AB.gone/\R d=γ u/\u.n=k.n))(m:∀d c,eW d j.put=γ c->BR (kd R i k) d c w')(A:VR (kd R i k) j.val v)(o:BR (kd R i k) i b w')(os:w'.os=w.os)(g:w'.tape=w.tape)(f:w'.output=w.output)(size:w.heap.size<=w'.heap.size)(block:∀q,q<w.heap.size->(∀p b,p∈j.put->R p.1=γ b->b.n≠q)->w'.heap[q]?=w.heap[q]?):ey R (kd R i k) i j w w' v where
 le:=JC y
 cg:=by
  intro d h B;rw[n];by_cases e:d=i
  ·subst e;simp
  ·simp[kd,e,h]at B
 val:=A
 put:=m
 new:=by
  rw[n];intro a c l;cases a with
  |zero=>simp at l;subst l;simpa using o
  |succ a=>simp at l
 os:=os
 tape:=g
 output:=f
 size:=size
 block:=block
 fresh:=by
  rw[n];intro a c l x;have:a=0:=by simpa using l
  subst this;simp[kd]at x;subst x;exact z
 apart:=by rw[n];intro a L c M H l t;simp at l t;omega
def ey.zZ{w w':ψ}{v:τ}{b:AB}{c:O}{o:Obj}(k:R i=ζ)(l:j.put=[])(m:j.new=[b])(f:w'.heap=w.heap.push o)(os:w'.os=w.os)(e:w'.tape=w.tape)(d:w'.output=w.output)(n:VR (kd R i ⟨w.heap.size,0,c⟩) j.val v)(g:BR (kd R i ⟨w.heap.size,0,c⟩) i b w'):ey R (kd R i ⟨w.heap.size,0,c⟩) i j w w' v:=
 ey.one k m ⟨by rw[f];simp,.inl (aQ _)⟩ (by rw[l];intro a c h;simp[eW]at h) n g os e d (by rw[f];simp)
  (λq p _=>by rw[f,ac7,gc])
def arA(a:aX Obj)(o:Obj):(a.push o)[a.size]?=γ o:=by simp
def yZ(t:ae)(x:AV)(base:O):χ Delta:=(AV.cells x).map λa=>{val:=.ptr base 0 0 0,new:=[.cells a t]}
def UF{P:bS}{x:AV}{w:ψ}{y:τ}(h:yZ N x i=γ j)(d:VR R x y)(b:R i=ζ):∃v w' a,(ads N y).run P w=.ok v w'/\ey R a i j w w' v:=by
 simp only[yZ,dL]at h;obtain⟨f,e,rfl⟩:=h;refine⟨.pointer (γ ⟨w.heap.size,0,ζ⟩),w.alloc (.cells y.cells N),_,?_,ey.zZ (c:=0) (o:=.cells y.cells N) b rfl rfl rfl rfl rfl rfl ?_ ?_⟩
 ·simp[ads,newVar,newRow]
 ·simp only[VR]
  exact⟨_,jL _ _ _,by simp⟩
 ·refine⟨_,y.cells.toList,jL _ _ _,rfl,?_,(Uh e d).le (JC b)⟩
  show(w.heap.push _)[w.heap.size]?=_
  simp
def Gh(P:bS)(t:ae)(base:O):χ Delta:=
 match P.info? t with
 |some i=>match i.zero with
  |some z=>yZ t (.v z) base
  |none=>ζ
 |none=>ζ
def afe(h:Gh P N i=γ j)(c:R i=ζ):∃v w' b,(Instr.alloc N ε (.tuple #[])).run P X=.ok v w'/\ey R b i j X w' v:=by
 unfold Gh at h;split at h
 ·rename_i a d
  split at h
  ·rename_i z e
   obtain⟨v,w',b,f,g⟩:=UF (P:=P) (w:=X) (y:=z) h (by simp only[VR]) c;refine⟨v,w',b,?_,g⟩;rw[<-f];simp[Instr.alloc,ads,FU,yr,d,e]
  ·cases h
 ·cases h
def Jc:O->O->E τ->O->E τ
 |0,_,l,_=>l.take 1
 |n+1,k,l,j=>lR (Ψ j k) (l.take 1) (Jc n (k+1) (l.drop 1) j)
def aa7:∀(n k:O)(l:E τ)(j:O),k<=j->j<=k+n->Jc n k l j=(l.drop (j-k)).take 1
 |0,k,l,j,a,b=>by rw[show j-k=0 by omega];rfl
 |n+1,k,l,j,a,b=>by
  rw[Jc,rg];cases h:Ψ j k with
  |true=>have h:=cA h;rw[show j-k=0 by omega];rfl
  |false=>
   have h:j≠k:=λe=>by rw[e,mG]at h;cases h
   rw[be,aa7 n (k+1) (l.drop 1) j (by omega) (by omega),Bi]
   congr 2
   omega
def rowAt(len a:O)(l:E τ):O->E τ:=bif Ψ len 1 then λ_=>l else bif Ψ a 1&&Δ len 16 then Jc (len-1) 0 l else λj=>(l.drop (j*a)).take a
def atp{len a:O}{l:E τ}(c:l.length=len*a)(d:i<len):rowAt len a l i=(l.drop (i*a)).take a:=by
 unfold rowAt;cases h:Ψ len 1 with
 |false=>
  cases b:Ψ a 1&&Δ len 16 with
  |false=>rfl
  |true=>rw[aP]at b;have e:=cA b.1;subst e;rw[be,a6,aa7 _ _ _ _ (ej _) (by omega),Bu,rS]
 |true=>
  have h:=cA h;subst h;have:i=0:=by omega
  subst this;rw[a6,Bv,J0,pA (by omega)]
def Gs(P:bS)(t:ae)(len:O)(b:E (O×τ))(base:O):χ Delta:=
 match P.underlying t with
 |some (.slice e)=>match P.info? e with
  |some i=>match i.zero with
   |some z=>
    if len*i.size=0 then
     (match b with
     |[]=>γ {val:=.own base len,new:=[.row ε len i.size (λ_=>[]) e],aw:=[Ψ len 0]}
     |_=>ζ)
    else match ln (λq=>γ (q*i.size,i.size)) ((RM (len*i.size)).map (z.cells[· %z.cells.size]!)) b with
     |some a=>γ {val:=.own base len,new:=[.row ε len i.size (rowAt len i.size a.toList) e],aw:=[Ψ a.size (len*i.size),Δ (len*i.size) 16777216,a.toList.all Kr]}
     |none=>ζ
   |none=>ζ
  |none=>ζ
 |_=>ζ
def ats{l:E τ}{c a:O}(h:l.length=c*a)(d:∀x∈l,x.oneCell'=ε):∀j,j<c->(((l.drop (j*a)).take a).length=a/\∀x∈ (l.drop (j*a)).take a,x.oneCell'=ε)/\∀k,k<a->l[0+(j*a+k)]?=((l.drop (j*a)).take a)[k]?:=by intro j e;have b:(j+1)*a<=c*a:=iY _ e;rw[fZ,kk]at b;refine⟨⟨by simp;omega,λx f=>d x (adZ (Sl f))⟩,λk g=>?_⟩;rw[nl,aU g,qq,bH]
def afM{f:E (O×τ)}{base:O}(h:Gs P N i f base=γ j)(l:aJ j.aw=ε)(A:R base=ζ):∃v w' n,(adt N i f.toArray).run P X=.ok v w'/\ey R n base j X w' v:=by
 unfold Gs at h;split at h
 ·rename_i e B
  split at h
  ·rename_i a C
   split at h
   ·rename_i z D
    split at h
    ·rename_i m
     split at h
     ·simp only[aC]at h
      subst h;have p:i=0:=by simp only[aJ,gA,kh,jb,id]at l;exact cA l
      subst p;refine⟨.slice (γ ⟨X.heap.size,0,ζ⟩) 0 0,X.alloc (.cells #[] e),_,?_,ey.zZ (c:=0) (o:=.cells #[] e) A rfl rfl rfl rfl rfl rfl ?_ ?_⟩
      ·simp[adt,fL B,tR,yr,C,ln,newRow]
       simp[RM]
      ·simp only[VR]
       exact⟨_,jL _ _ _,rfl⟩
      ·refine .inr ⟨_,[],e,(0,0),jL _ _ _,?_,λ_=>⟨rfl,rfl,rfl,by simp,by simp[jB]⟩,aQ _,λb q=>by omega⟩
       show(X.heap.push _)[X.heap.size]?=_
       simp
     ·cases h
    ·rename_i g
     split at h
     ·rename_i d G
      simp only[aC]at h;subst h;simp only[aJ,gA,kh,jb,id,aP]at l;obtain⟨r,s,u⟩:=l;have y:d.size=i*a.size:=cA r;have H:=qt s;have k:i<=jB:=by
       have:0<a.size:=by
        rcases qs a.size with m|m
        ·rw[m]at g;simp at g
        ·exact m
       have L:i*1<=i*a.size:=Nat.mul_le_mul_left _ this;simp only[jB];omega
      refine⟨_,_,_,run_buildSlice X N e i f.toArray d a z B C D (by omega) g G,ey.zZ (c:=i) (o:=.cells d e) A rfl rfl rfl rfl rfl rfl ?_ ?_⟩
      ·simp only[VR]
       exact⟨_,jL _ _ _,rfl⟩
      ·refine .inr ⟨_,d.toList,e,(0,0),jL _ _ _,?_,λ_=>⟨rfl,rfl,rfl,by simpa using y,k⟩,aQ _,λb q=>by rw[atp (by simpa using y) q];exact ats (by simpa using y) (λx I=>bT.1 u x I) b q⟩
       show(X.heap.push _)[X.heap.size]?=_
       simp
     ·cases h
   ·cases h
  ·cases h
 ·cases h
def Iw(P:bS)(t:ae)(l c:Z)(base:O):χ Delta:=
 match P.underlying t with
 |some (.slice e)=>match P.info? e with
  |some i=>match i.zero with
   |some z=>
    if z.cells.size=i.size/\0<i.size/\i.bytes<=256/\z.cells.toList.all Kr=ε then
     γ {val:=.own base l.toNat,new:=[.row ε l.toNat i.size (λ_=>z.cells.toList) e],aw:=[κ (0<=l),κ (l<=c),κ (c<=1099511627776)]}
    else ζ
   |none=>ζ
  |none=>ζ
 |_=>ζ
def anM{l c:Z}{kl kc:IntKind}(h:Iw P N l c i=γ j)(u:aJ j.aw=ε)(A:R i=ζ):∃v w' r,(Instr.makeSlice N (.int kl l) (.int kc c)).run P X=.ok v w'/\ey R r i j X w' v:=by
 unfold Iw at h;split at h
 ·rename_i e B
  split at h
  ·rename_i a C
   split at h
   ·rename_i z D
    split at h
    ·rename_i G
     obtain⟨f,y,H,g⟩:=G;simp only[aC]at h;subst h;simp only[aJ,gA,kh,jb,id,aP,aL]at u;obtain⟨I,L,S⟩:=u;have d:(a.bytes:Z)*c<=281474976710656:=by have:(a.bytes:Z)*c<=256*c:=adz (by omega) (by omega);omega
     have m:=run_make (P:=P) X N e a z B C D kl kc l c I L d (by omega);refine⟨_,_,_,m,ey.zZ (c:=c.toNat) (o:=.cells (TG z.cells (c.toNat*a.size)) e) A rfl rfl rfl rfl rfl rfl ?_ ?_⟩
     ·simp only[VR]
      exact⟨_,jL _ _ _,rfl⟩
     ·refine .inr ⟨_,(TG z.cells (c.toNat*a.size)).toList,e,(0,0),jL _ _ _,?_,λ_=>⟨rfl,rfl,rfl,by simp[TG],by simp only[jB];omega⟩,by show l.toNat<=c.toNat;omega,?_⟩
      ·show(X.heap.push _)[X.heap.size]?=_
       simp
      ·intro b T
       have s:b<c.toNat:=by omega
       refine⟨⟨by simpa using f,λx M=>bT.1 g x M⟩,λk Q=>?_⟩;have n:(b+1)*a.size<=c.toNat*a.size:=iY _ s;rw[fZ,kk]at n;have p:(b*a.size+k)%z.cells.size=k:=by rw[f,tE,Nat.mul_add_mod,Br Q]
       have q:k<z.cells.size:=by omega
       simp only[TG,bH,JM,Sf,Array.toList_range];rw[List.getElem?_range (by omega)];simp only[Bw,p];rw[yn z.cells k q];simp[q]
    ·cases h
   ·cases h
  ·cases h
 ·cases h
def sn(H:E AB)(s:O):AV->χ (O×O× (O->E τ)×E ξ)
 | .own i m=>match H.getD i .gone with
  | .row _ n a g _=>if a=s then γ (i,m,g,[Δ m n])else ζ
  |_=>ζ
 | .sl i w j k m _=>match H.getD i .gone with
  | .row _ n a g _=>if a=s/\w=s/\k=0 then γ (i,m,λq=>g (j+q),[Δ (j+m) n])else ζ
  |_=>ζ
 |_=>ζ
structure aeM (w:ψ) (s:O) (y:τ) (m:O) (g:O->E τ):Prop where
 mk':∃(p:χ cM)(c:O)(news:E τ),y=.slice p m c/\(p=ζ->m=0)/\news.length=m*s/\(∀a,p=γ a->∀(j:O) v,news[j]?=γ v->w.cell? (a.add j)=γ v)/\
  ∀q,q<m->((g q).length=s/\∀x∈g q,x.oneCell'=ε)/\∀k,k<s->news[q*s+k]?=(g q)[k]?
def VD{l:E τ}{f:O×O}{s m off:O}{g:O->E τ}(o:X.heap[i]?=γ (.cells l.toArray N f))(h:∀q,q<m->((g q).length=s/\∀x∈g q,x.oneCell'=ε)/\∀k,k<s->l[off+(q*s+k)]?=(g q)[k]?):∃a:E τ,a.length=m*s/\(∀(j:O) v,a[j]?=γ v->X.cell? ((⟨i,off,ζ⟩:cM).add j)=γ v)/\∀q,q<m->((g q).length=s/\∀x∈g q,x.oneCell'=ε)/\∀k,k<s->a[q*s+k]?=(g q)[k]?:=by
 refine⟨(l.drop off).take (m*s),?_,?_,?_⟩
 ·rcases qs m with rfl|z
  ·simp
  ·rcases qs s with rfl|A
   ·simp
   ·obtain⟨⟨B,_⟩,p⟩:=h (m-1) (by omega)
    have e:=p (s-1) (by omega);have r:(g (m-1))[s-1]?=γ (g (m-1))[s-1]:=df (by omega);rw[r]at e;have u:=(fY.1 e).1;have:(m-1)*s+s=m*s:=by
     have:m=(m-1)+1:=by omega
     rw[this,fZ,kk,Sq]
    simp only[pz,py];omega
 ·intro j v b
  rw[nl]at b;split at b
  ·rw[qq]at b
   rw[addr_add,oL o];exact b
  ·cases b
 ·intro q d
  refine⟨(h q d).1,λk y=>?_⟩;have c:(q+1)*s<=m*s:=iY _ d;rw[fZ,kk]at c;rw[nl,oW,qq];exact(h q d).2 k y
def Mt{H:E AB}{s:O}{x:AV}{i m:O}{g:O->E τ}{ob:E ξ}{ν:Nu}{w:ψ}{y:τ}(h:sn H s x=γ (i,m,g,ob))(u:aJ ob=ε)(z:VR ν x y)(A:BR ν i (H.getD i .gone) w):aeM w s y m g:=by
 unfold sn at h;split at h
 ·rename_i W o
  split at h
  ·rename_i B n X S t C
   split at h
   ·rename_i e
    subst e;simp only[aC,cI]at h;obtain⟨rfl,rfl,rfl,rfl⟩:=h;simp only[VR]at z;obtain⟨b,r,rfl⟩:=z;rw[C]at A;rcases A with⟨_,_,d⟩|⟨b',l,t',fz,d,D,e3,e4,G⟩
    ·rw[r]at d;cases d
    rw[r]at d;cases d;have I:o<=n:=by simp only[aJ,gA,kh,jb,id]at u;exact qt u
    obtain⟨f,L,M,N⟩:=VD (m:=o) (off:=b.o) D (λq T=>G q (by omega));exact⟨_,_,f,rfl,by simp,L,λa Q=>(by cases Q;exact M),N⟩
   ·cases h
  ·cases h
 ·rename_i W w' j k o cap
  split at h
  ·rename_i B n X S t C
   split at h
   ·rename_i e
    obtain⟨rfl,rfl,rfl⟩:=e;simp only[aC,cI]at h;obtain⟨rfl,rfl,rfl,rfl⟩:=h;simp only[VR]at z;obtain⟨p,c,rfl,hc,hmc,hp⟩:=z;have I:j+o<=n:=by simp only[aJ,gA,kh,jb,id]at u;exact qt u
    rcases qs c with U|U
    ·have R:o=0:=by omega
     subst R;exact⟨p,c,[],rfl,λ_=>rfl,by simp,λa _ j v hj=>by simp at hj,λq T=>by omega⟩
    ·obtain⟨b,r,rfl⟩:=hp U
     rw[C]at A;rcases A with⟨_,h00,d⟩|⟨b',l,t',fz,d,D,e3,e4,G⟩
     ·rw[r]at d;cases d
     rw[r]at d;cases d;obtain⟨f,L,M,N⟩:=VD (m:=o) (off:=b.o+(j*w'+0)) (g:=λq=>S (j+q)) D (λq T=>by
      obtain⟨f1,f2⟩:=G (j+q) (by omega);refine⟨f1,λk hk=>?_⟩;rw[<-f2 k hk,fZ]
      congr 1
      omega)
     exact⟨_,_,f,rfl,by simp,L,λa Q=>(by cases Q;exact M),N⟩
   ·cases h
  ·cases h
 ·cases h
def Gj(P:bS)(t:ae)(H:E AB)(s x:AV)(base:O):χ Delta:=
 match P.underlying t with
 |some (.slice e)=>match P.info? e with
  |some i=>match i.zero with
   |some z=>
    if z.cells.size=i.size/\0<i.size/\i.bytes<=256 then
     match sn H i.size x with
     |some (h,m,j,k)=>
      match s with
      | .own b a=>match H.getD b .gone with
       | .row ε n l g o=>if l=i.size/\o=e then
         γ {val:=.own base (a+m),rd:=[b,h],put:=[(b,.gone)],new:=[.row ε (a+m) l (λq=>lR (ω q a) (g q) (j (q-a))) e],aw:=Δ a n::Δ (a+m) 549755813888::k}
        else ζ
       |_=>ζ
      | .v (.slice ζ 0 0)=>γ {val:=.own base m,rd:=[h],new:=[.row ε m i.size j e],aw:=ω 0 m::Δ m 549755813888::k}
      |_=>ζ
     |none=>ζ
    else ζ
   |none=>ζ
  |none=>ζ
 |_=>ζ
def uw(g:O->E τ):O->E τ
 |0=>[]
 |n+1=>uw g n++g n
def V_{s m:O}{g:O->E τ}{a:E τ}(f:a.length=m*s)(h:∀q,q<m->((g q).length=s/\∀x∈g q,x.oneCell'=ε)/\∀k,k<s->a[q*s+k]?=(g q)[k]?):∀n,n<=m->uw g n=a.take (n*s)
 |0,_=>by simp[uw]
 |n+1,c=>by
  have i:=V_ f h n (by omega);obtain⟨⟨l,_⟩,j⟩:=h n (by omega);have b:(n+1)*s<=m*s:=iY _ c;rw[fZ,kk]at b;have e:g n=(a.drop (n*s)).take s:=by
   apply Sa;intro k;rw[nl];by_cases d:k<s
   ·rw[aU d,qq,j k d]
   ·rw[bI d,nk (by omega)]
  rw[uw,i,e,fZ,kk,List.take_add]
def Me(P:bS)(t:ae)(H:E AB)(dst b:AV):χ Delta:=
 match P.underlying t,dst with
 |some (.slice e),.sl i w j k m _=>match lh P e,H.getD i .gone,sn H 1 b with
  |some 1,.cells c d,γ (f,a,g,h)=>γ {val:=.v (.int .i64 (yh a m:O)),rd:=[i,f],put:=[(i,.cells (iC c (j*w+k) ((uw g (yh a m)).map .v)) d)],aw:=ω 0 m::ω 0 a::Δ (j*w+k+yh a m) c.length::h}
  |_,_,_=>ζ
 |_,_=>ζ
def ahv{t t' ty:ae}{dst B:AV}{y z:τ}{base:O}(h:Me P t S dst B=γ j)(ho:aJ j.aw=ε)(hy:VR R dst y)(hz:VR R B z)(hr:∀i∈j.rd,BR R i (S.getD i .gone) X)(C:∀{s m:O}{u:O->E τ}{g:E τ},0<s->g.length=m*s->(∀q,q<m->((u q).length=s/\∀x∈u q,x.oneCell'=ε)/\∀k,k<s->g[q*s+k]?=(u q)[k]?)->∀v∈g,v.oneCell'=ε):∃v w',(Builtin.copy_ #[t,t'] ty #[y,z]).run P X=.ok v w'/\ey R R base j X w' v:=by
 unfold Me at h;split at h
 ·rename_i e i wd d k m cap hu
  split at h
  ·rename_i cs ct ix r u ob hs hH M
   simp only[aC]at h;subst h;simp only[aJ,gA,id,aP]at ho;obtain⟨N,Q,T,U⟩:=ho;have hm:0<m:=by simpa[bM]using N
   have hmm:0<r:=by simpa[bM]using Q
   have hle:=qt T;obtain⟨pa,c,g,rfl,W,A,w,D⟩:=(Mt M U hz (hr ix (by simp))).mk';cases pa with
   |none=>have:=W rfl;omega
   |some a=>
   have G:=w a rfl;simp only[VR]at hy;obtain⟨p,c',rfl,_,hlc,hp⟩:=hy;obtain⟨b,H,rfl⟩:=hp (by omega);have I:=hr i (by simp);rw[hH]at I;obtain⟨b',l,e1,e2,e3,e4⟩:=I;rw[H]at e1;cases e1;have o:=V_ A D (yh r m) (Nat.min_le_left _ _);rw[rS]at o A;have n:(uw u (yh r m)).length=yh r m:=by rw[o,pz,A];exact Fv (Nat.min_le_left _ _)
   have hll:=e4.length;have L:=run_copy_row (P:=P) X t t' ty e b.n (d*wd+k) m c' a r c l.toArray ct (uw u (yh r m)) hu hs e3 n (λq v f=>G q v (by
    rw[o,nl]at f;split at f
    ·exact f
    ·cases f)) (by simp only[Fs];omega) (λv hv=>by rw[o]at hv;exact C (s:=1) (m:=r) Nat.one_pos (by omega) D v (Sl hv))
   rw[e2,bH];refine⟨_,_,L,Le.refl _,λq h h'=>aR h h',by simp only[VR,goInt,n],?_,by intro q bb f;simp at f,rfl,rfl,rfl,by simp,?_,by intro q bb f;simp at f,by intro q q' bb bb' _ f;simp at f⟩
   ·intro q bb f
    simp only[eW]at f;split at f
    ·rename_i ee;subst ee;cases f
     refine⟨b,_,H,e2,FT _ _ _ _ _ _ e3,?_⟩;have:=aB.iC (d*wd+k) e4 (aB.wU (ν:=R) (uw u (yh r m)));rw[xA l _ _ (by omega)]at this;simpa using this
    ·cases f
   ·intro q f hne
    refine TI _ _ _ _ ?_;have:=hne (i,_) b (jA) H;exact λe=>this e.symm
  ·cases h
 ·cases h
def XS{s len m:O}{g e:O->E τ}{l a f:E τ}(t:l.length=len*s)(u:a.length=m*s)(n:∀q,q<len->((g q).length=s/\∀x∈g q,x.oneCell'=ε)/\∀k,k<s->l[q*s+k]?=(g q)[k]?)(o:∀q,q<m->((e q).length=s/\∀x∈e q,x.oneCell'=ε)/\∀k,k<s->a[q*s+k]?=(e q)[k]?):∀j,j<len+m->(((λq=>lR (ω q len) (g q) (e (q-len))) j).length=s/\∀x∈ (λq=>lR (ω q len) (g q) (e (q-len))) j,x.oneCell'=ε)/\∀k,k<s->(l++a++f)[0+(j*s+k)]?=((λq=>lR (ω q len) (g q) (e (q-len))) j)[k]?:=by
 intro j v;by_cases b:j<len
 ·have h:ω j len=ε:=by simpa[bM]using b
  simp only[rg,h,a6];refine⟨(n j b).1,λk i=>?_⟩;have c:(j+1)*s<=len*s:=iY _ b;rw[fZ,kk]at c;rw[bH,jN,kN (by omega)];exact(n j b).2 k i
 ·have h:ω j len=η:=by
   cases h:ω j len with
   |true=>exact aR (by simpa[bM]using h) b
   |false=>rfl
  simp only[rg,h,be];have d:j-len<m:=by omega
  refine⟨(o _ d).1,λk i=>?_⟩;have c:(j-len+1)*s<=m*s:=iY _ d;rw[fZ,kk]at c;have p:(j-len)*s=j*s-len*s:=Nat.sub_mul ..;have r:len*s<=j*s:=iY _ (by omega);rw[bH,jN,oi (by omega),kN (by omega),<-(o _ d).2 k i]
  congr 1
  omega
variable {p:O->E τ}
def aad{s m:O}{a:E τ}(hs:0<s)(l:a.length=m*s)(b:∀q,q<m->((p q).length=s/\∀x∈p q,x.oneCell'=ε)/\∀k,k<s->a[q*s+k]?=(p q)[k]?):∀v∈a,v.oneCell'=ε:=by
 intro v f;obtain⟨j,c⟩:=J8.1 f;have g:=(fY.1 c).1;have d:j/s<m:=by rw[ad5 hs];omega
 have h:=tD j hs;have i:j/s*s+j%s=j:=by rw[tE];exact Nat.div_add_mod j s
 have e:=(b _ d).2 _ h;rw[i,c]at e;exact(b _ d).1.2 v (kj e.symm)
def afj{t ty:ae}{s x:AV}{ys yx:τ}(h:Gj P t S s x i=γ j)(ho:aJ j.aw=ε)(hs:VR R s ys)(hx:VR R x yx)(hb:R i=ζ)(hr:∀d∈j.rd,BR R d (S.getD d .gone) X)(hlt:∀d b,R d=γ b->b.n<X.heap.size):∃v w' ν',(rP #[t,t] ty #[ys,yx]).run P X=.ok v w'/\ey R ν' i j X w' v:=by
 unfold Gj at h;split at h
 ·rename_i e hu
  split at h
  ·rename_i d hi
   split at h
   ·rename_i z hz
    split at h
    ·rename_i hc
     obtain⟨hzs,hpos,hby⟩:=hc;split at h
     ·rename_i ix m gx ob hel
      split at h
      ·rename_i Q o
       split at h
       ·rename_i n wd g ty' hH
        split at h
        ·rename_i hwd
         obtain⟨rfl,rfl⟩:=hwd;simp only[aC]at h;subst h;simp only[aJ,gA,id,aP]at ho;obtain⟨H,ho2,ho3⟩:=ho;have hln:=qt H;have G:=qt ho2;obtain⟨pa,c,p,rfl,hpn,u,I,B⟩:=(Mt hel ho3 hx (hr ix (by simp))).mk';have hone:=aad hpos u B;have hbr:=hr Q (by simp);rw[hH]at hbr;rcases hbr with⟨h00,_,_⟩|⟨b,l,C,fz,e1,e2,e3,e4,e5⟩
         ·cases h00
         obtain⟨rfl,eo,rfl,el,ec⟩:=e3 rfl;simp only[VR]at hs;obtain⟨b',T,rfl⟩:=hs;rw[e1]at T;cases T;have hg:∀q,q<o->((g q).length=d.size/\∀x∈g q,x.oneCell'=ε)/\∀k,k<d.size->(l.take (o*d.size))[q*d.size+k]?=(g q)[k]?:=by
          intro q D;obtain⟨f1,f2⟩:=e5 q (by omega);refine⟨f1,λk hk=>?_⟩;have L:(q+1)*d.size<=o*d.size:=iY _ D;rw[fZ,kk]at L;rw[nl,oW];have:=f2 k hk
          rwa [eo,bH]at this
         have hlc:o*d.size<=l.length:=by rw[el];exact iY _ (by omega)
         have A:(l.take (o*d.size)).length=o*d.size:=by simp;omega
         have M:∀(k:Bk)(w':ψ)(q:O) cc,eW q [(Q,AB.gone)]=γ cc->BR (kd R i k) q cc w':=by
          intro k w' q cc D;simp only[eW]at D;split at D
          ·cases D;trivial
          ·cases D
         have lk:eW Q [(Q,AB.gone)]=γ .gone:=by simp[eW]
         rw[eo];cases pa with
         |none=>
          have hm0:=hpn rfl;subst hm0;have r:o<=b.c:=by omega
          refine⟨.slice (γ ⟨b.n,0,ζ⟩) o b.c,X,kd R i b,?_,ey.one (b:=.row ε (o+0) d.size _ C) hb rfl ⟨hlt Q b e1,.inr ⟨Q,b,lk,e1,rfl⟩⟩ (M _ _) ?_ ?_ rfl rfl rfl (aQ _) (λ_ _ _=>rfl)⟩
          ·simp[rP,fL hu,tR,yr,hi,adb,r,ada,TJ]
          ·simp only[VR]
           exact⟨b,jL _ _ _,by rw[eo];rfl⟩
          ·refine .inr ⟨b,l,C,(0,0),jL _ _ _,e2,λ_=>⟨rfl,eo,rfl,el,ec⟩,by omega,λq D=>?_⟩
           have T:ω q o=ε:=by simpa[bM]using D
           simp only[rg,T,a6];exact e5 q (by omega)
         |some a=>
         have U:=I a rfl;by_cases r:o+m<=b.c
         ·have N:o*d.size+p.length<=l.toArray.size:=by simp only[Fs];rw[u,el,<-fZ];exact iY _ r
          have y:=run_append_room (P:=P) X t ty C d hu hi b.n o b.c l.toArray e2 a m c p u U hone r N;refine⟨_,_,kd R i b,y,ey.one (b:=.row ε (o+m) d.size _ C) hb rfl ⟨by simpa using hlt Q b e1,.inr ⟨Q,b,lk,e1,rfl⟩⟩ (M _ _) ?_ ?_ rfl rfl rfl (by simp) ?_⟩
          ·simp only[VR]
           exact⟨b,jL _ _ _,by rw[eo]⟩
          ·refine .inr ⟨b,_,C,(0,0),jL _ _ _,FT _ _ _ _ _ _ e2,λ_=>⟨rfl,eo,rfl,?_,ec⟩,r,?_⟩
           ·simp only[Fs]at N
            simp only[bN,pz,py]at N⊢;omega
           ·rw[eo]
            simp only[];exact XS A u hg B
          ·intro q D hne
           refine TI _ _ _ _ ?_;have:=hne (Q,.gone) b (by simp) e1;exact λe=>this e.symm
         ·have holds:∀(f:O) v,(l.take (o*d.size))[f]?=γ v->X.cell? ((⟨b.n,0,ζ⟩:cM).add f)=γ v:=by
           intro f v W;rw[nl]at W;split at W
           ·rw[addr_add,oL e2,bH];exact W
           ·cases W
          have w:(o+m)*d.bytes<=140737488355328:=by have:(o+m)*d.bytes<=549755813888*256:=qu G hby;omega
          have y:=run_append_grow (P:=P) X t ty C d z hu hi hz ⟨b.n,0,ζ⟩ o b.c (l.take (o*d.size)) A holds a m c p u U (by omega) (by omega) (growslice_fits (by omega) w);have hge:=TF X (o+m) b.c C;have hcm:l9 X (o+m) b.c C<=jB:=aeE X (o+m) b.c C (by simp only[jB];omega);refine⟨_,_,kd R i ⟨X.heap.size,0,l9 X (o+m) b.c C⟩,y,ey.one (b:=.row ε (o+m) d.size _ C) hb rfl ⟨by simp,.inl (aQ _)⟩ (M _ _) ?_ ?_ rfl rfl rfl (by simp) ?_⟩
          ·simp only[VR]
           exact⟨_,jL _ _ _,rfl⟩
          ·refine .inr ⟨_,(l.take (o*d.size))++p++(qo z.cells (l9 X (o+m) b.c C-(o+m))).toList,C,(0,0),jL _ _ _,?_,λ_=>⟨rfl,rfl,rfl,?_,hcm⟩,hge,XS A u hg B⟩
           ·show(X.heap.push _)[X.heap.size]?=_
            simp
           ·simp only[bN,A,u,lm,aeG,hzs,<-fZ]
            congr 1
            omega
          ·intro q D _
           show(X.heap.push _)[q]?=_
           rw[ac7,gc]
        ·cases h
       ·cases h
      ·simp only[aC]at h
       subst h;simp only[aJ,gA,id,aP]at ho;obtain⟨H,ho2,ho3⟩:=ho;have hm:0<m:=by simpa[bM]using H
       have G:=qt ho2;obtain⟨pa,c,p,rfl,hpn,u,I,B⟩:=(Mt hel ho3 hx (hr ix (by simp))).mk';cases pa with
       |none=>have:=hpn rfl;omega
       |some a=>
       have U:=I a rfl;simp only[VR]at hs;subst hs;have w:m*d.bytes<=140737488355328:=by have:m*d.bytes<=549755813888*256:=qu G hby;omega
       have y:=run_append_nil (P:=P) X t ty e d z hu hi hz a m c p u U hm (by omega) (by omega);have hge:=TF X m 0 e;have hcm:l9 X m 0 e<=jB:=aeE X m 0 e (by simp only[jB];omega);refine⟨_,_,kd R i ⟨X.heap.size,0,l9 X m 0 e⟩,y,ey.one (b:=.row ε m d.size gx e) hb rfl ⟨by simp,.inl (aQ _)⟩ (by intro q cc D;simp[eW]at D) ?_ ?_ rfl rfl rfl (by simp) ?_⟩
       ·simp only[VR]
        exact⟨_,jL _ _ _,rfl⟩
       ·refine .inr ⟨_,p++(qo z.cells (l9 X m 0 e-m)).toList,e,(0,0),jL _ _ _,?_,λ_=>⟨rfl,rfl,rfl,?_,hcm⟩,hge,?_⟩
        ·show(X.heap.push _)[X.heap.size]?=_
         simp
        ·simp only[bN,u,lm,aeG,hzs,<-fZ]
         congr 1
         omega
        ·intro f W
         refine⟨(B f W).1,λk hk=>?_⟩;have L:(f+1)*d.size<=m*d.size:=iY _ W;rw[fZ,kk]at L;rw[bH,kN (by omega)];exact(B f W).2 k hk
       ·intro q D _
        show(X.heap.push _)[q]?=_
        rw[ac7,gc]
      ·cases h
     ·cases h
    ·cases h
   ·cases h
  ·cases h
 ·cases h
def Ma(P:bS)(t:ae)(H:E AB)(x:AV):χ Delta:=
 match P.underlying t,x with
 |some (.slice e),.sl i w j 0 m _=>(match P.info? e,H.getD i .gone with
  |some a,.row ε n b g c=>(match a.zero with
   |some z=>if b=w/\z.cells.size=w/\0<w/\z.cells.toList.all Kr=ε then
     γ {val:=.v (.tuple #[]),rd:=[i],put:=[(i,.row ε n b (λq=>lR (Δ j q&&ω q (j+m)) z.cells.toList (g q)) c)],aw:=[Δ (j+m) n]}
    else ζ
   |none=>ζ)
  |_,_=>ζ)
 |_,_=>ζ
def ac5(z:aX τ)(m a:O)(h:a<m*z.size):(qo z m).toList[a]?=γ (z[a%z.size]!):=by simp[qo,h]
def ag7{t ty':ae}{x:AV}{y:τ}{base:O}(h:Ma P t S x=γ j)(ho:aJ j.aw=ε)(hy:VR R x y)(hr:∀i∈j.rd,BR R i (S.getD i .gone) X):∃v w',(ac' #[t] ty' #[y]).run P X=.ok v w'/\ey R R base j X w' v:=by
 unfold Ma at h;split at h
 case h_2=>cases h
 rename_i e i wd0 a m cap hu;split at h
 case h_2=>cases h
 rename_i inf n d g ty hi hH;split at h
 case h_2=>cases h
 rename_i z hz;split at h
 case isFalse=>cases h
 rename_i hc;obtain⟨rfl,o,hw0,u⟩:=hc;simp only[aC]at h;subst h;have hle:a+m<=n:=by simpa[aJ]using ho
 simp only[VR]at hy;obtain⟨p,c,rfl,_,hmc,hp⟩:=hy;have B:=hr i (by simp);rw[hH]at B;have A:∀(w':ψ) v,v=.tuple #[]->w'.os=X.os->w'.tape=X.tape->w'.output=X.output->w'.heap.size=X.heap.size->(∀q,(∀b,R i=γ b->b.n≠q)->w'.heap[q]?=X.heap[q]?)->BR R i (.row ε n d (λq=>lR (Δ a q&&ω q (a+m)) z.cells.toList (g q)) ty) w'->
   ey R R base {val:=.v (.tuple #[]),rd:=[i],put:=[(i,.row ε n d (λq=>lR (Δ a q&&ω q (a+m)) z.cells.toList (g q)) ty)],aw:=[Δ (a+m) n]} X w' v:=by
  intro w' v U h1 W w h4 h5 h6;refine⟨Le.refl _,λq h N=>aR h N,by simp only[VR,U],?_,by intro q H f;simp at f,h1,W,w,by omega,?_,by intro q H f;simp at f,by intro q q' H bb' _ f;simp at f⟩
  ·intro q H f
   simp only[eW]at f;split at f
   ·rename_i ee;subst ee;cases f;exact h6
   ·cases f
  ·intro q _ hne
   exact h5 q λb C=>hne (i,_) b jA C
 by_cases hm:m=0
 ·subst hm
  refine⟨.tuple #[],X,?_,A X _ rfl rfl rfl rfl rfl (λ_ _=>rfl) ?_⟩
  ·cases p<;>simp[ac',fL hu]
  ·have e0:(λq=>lR (Δ a q&&ω q (a+0)) z.cells.toList (g q))=g:=by
    funext q
    have:(Δ a q&&ω q (a+0))=η:=by
     cases C:(Δ a q&&ω q (a+0))with
     |false=>rfl
     |true=>rw[aP,bl,bM]at C;omega
    rw[rg,this,be]
   rw[e0];exact B
 ·obtain⟨b,C,rfl⟩:=hp (by omega)
  rcases B with⟨h0,_⟩|⟨b',l,t',fz,e1,e2,e3,e4,e5⟩
  ·cases h0
  rw[C]at e1;cases e1;obtain⟨rfl,Q,rfl,el,ec⟩:=e3 rfl;have D:(a+m)*d<=b.c*d:=iY _ (by omega);rw[fZ]at D;have G:(qo z.cells m).toList.length=m*d:=by simp[qo,o]
  have I:=run_storeCells_at P b.n (a*d) t' (qo z.cells m).toList 0 l.toArray X e2 (by simp only[Fs];omega) (by
   intro v U;obtain⟨L,s⟩:=J8.1 U;have hil:L<m*z.cells.size:=by have:=(fY.1 s).1;rw[o];omega
   rw[ac5 _ _ _ hil]at s;cases s;have hlt:L%z.cells.size<z.cells.size:=tD _ (by omega);refine bT.1 u _ ?_;rw[yn z.cells _ hlt];simp)
  have hzv:∀X:ψ,(FU e).run P X=.ok z X:=λX=>by simp[FU,yr,hi,hz]
  refine⟨.tuple #[],X.setRow b.n (iC l (a*d) (qo z.cells m).toList).toArray,?_,A _ _ rfl rfl rfl rfl (by simp) (λq f=>TI _ _ _ _ λe=>f b C e.symm) ?_⟩
  ·rw[xA l _ _ (by omega)]
   have hbo:b.o+(a*d+0)=a*d:=by omega
   simp only[im]at I;rw[hbo];cases m with
   |zero=>exact(hm rfl).elim
   |succ m=>simp only[ac'];simp[fL hu,hzv,I]
  ·refine .inr ⟨b,_,_,_,C,FT _ _ _ _ _ _ e2,λ_=>⟨rfl,Q,rfl,by rw[QT _ _ _ (by omega)];exact el,ec⟩,e4,?_⟩
   intro q f;obtain⟨⟨hg1,hg3⟩,hg2⟩:=e5 q f;have hqm:(q+1)*d<=b.c*d:=iY _ (by omega);rw[fZ,kk]at hqm;cases r:(Δ a q&&ω q (a+m))with
   |true=>
    simp only[rg,r,a6];rw[aP,bl,bM]at r;refine⟨⟨by simpa using o,λx hx=>bT.1 u x hx⟩,λk T=>?_⟩;have h1:a*d<=q*d:=iY _ r.1;have W:(q+1)*d<=(a+m)*d:=iY _ (by omega);rw[fZ,fZ,kk]at W;have w:(q-a)*d=q*d-a*d:=by rw[Nat.sub_mul]
    rw[Ew _ _ _ (by omega),Q,bH,G,oW,ac5 _ _ _ (by rw[o];omega),o];have h4:q*d+k-a*d=k+d*(q-a):=by rw[tE d,w];omega
    rw[h4,Nat.add_mul_mod_self_left,Br T,yn z.cells k (by omega)];simp[o,T]
   |false=>
    simp only[rg,r,be];refine⟨⟨hg1,hg3⟩,λk T=>?_⟩;have M:q<a\/a+m<=q:=by
     rcases om q a with h|h
     ·exact .inl h
     ·rcases om q (a+m)with N|N
      ·exfalso
       have:(Δ a q&&ω q (a+m))=ε:=by rw[aP,bl,bM];omega
       rw[this]at r;cases r
      ·exact .inr N
    have hno:¬(a*d<=q*d+k/\q*d+k<a*d+m*d):=by
     rcases M with h|h
     ·have:=iY d (show q+1<=a by omega)
      rw[fZ,kk]at this;omega
     ·have:=iY d h
      rw[fZ]at this;omega
    rw[Ew _ _ _ (by omega),Q,bH,G,bI hno];have:=hg2 k T
    rwa [Q,bH]at this
def bP(T:E AV):cP->AV
 | .tmp t=>T.getD t .dead
 | .const v=>.v v
 | .global g=>.v (.pointer (γ ⟨g,0,ζ⟩))
 | .func f=>.fn f []
def M3(P:bS)(S:ae)(x:AV)(f:O):χ AV:=
 match P.underlying S,x with
 |some (.struct a),.ptr i w j k=>match a[f]?with
  |some b=>match lh P b.type with
   |some (_+1)=>γ (.ptr i w j (k+b.offset))
   |_=>ζ
  |none=>ζ
 |_,_=>ζ
def aj3{x r:AV}{y:τ}(h:M3 P N x i=γ r)(d:VR R x y):∃v,(Instr.fieldAt N y i).run P X=.ok v X/\VR R r v:=by
 unfold M3 at h;split at h
 ·rename_i c a e j k g
  split at h
  ·rename_i l m
   split at h
   ·rename_i s n
    simp only[aC]at h;subst h;simp only[VR]at d;obtain⟨b,o,rfl⟩:=d;refine⟨.pointer (γ ⟨b.n,b.o+(j*e+(k+l.offset)),ζ⟩),?_,?_⟩
    ·simp[Instr.fieldAt,fL g,m,Bd,fieldPlace,pd n,addr_add]
    ·simp only[VR]
     exact⟨b,o,rfl⟩
   ·cases h
  ·cases h
 ·cases h
def C6(P:bS)(_:E AB)(t:ae)(x d:AV):χ Delta:=
 match P.underlying t,x,d with
 |some (.array a e),.ptr i w j k,.v (.int _ n)=>match lh P e with
  |some s=>γ {val:=.ptr i w j (k+n.toNat*s),aw:=[κ (0<=n),κ (n<a)]}
  |none=>ζ
 |some (.slice e),.own i a,.v (.int _ n)=>match lh P e with
  |some s=>γ {val:=.ptr i s n.toNat 0,aw:=[κ (0<=n),κ (n<a)]}
  |none=>ζ
 |some (.slice e),.sl i w j k a _,.v (.int _ n)=>match lh P e with
  |some s=>if w=s then γ {val:=.ptr i w (j+n.toNat) k,aw:=[κ (0<=n),κ (n<a)]}else ζ
  |none=>ζ
 |_,_,_=>ζ
def XY{x a:AV}(h:C6 P S N x a=γ j):j.put=[]/\j.new=[]:=by
 unfold C6 at h
 repeat(first|split at h|(simp only[aC]at h;subst h;exact⟨rfl,rfl⟩)|cases h)
def alM{x l:AV}{y z:τ}(h:C6 P S N x l=γ j)(d:aJ j.aw=ε)(f:VR R x y)(g:VR R l z):∃v,(RZ N y z).run P X=.ok v X/\VR R j.val v:=by
 unfold C6 at h;split at h
 ·rename_i m e i u a k A n o
  split at h
  ·rename_i s q
   simp only[aC]at h;subst h;simp only[aJ,gA,kh,jb,id,aP,aL]at d;simp only[VR]at f g;obtain⟨b,r,rfl⟩:=f;subst g;refine⟨.pointer (γ ⟨b.n,b.o+(a*u+(k+n.toNat*s)),ζ⟩),?_,?_⟩
   ·simp[RZ,tK,fL o,Bd,d.1,d.2,pd q,addr_add]
   ·simp only[VR]
    exact⟨b,r,rfl⟩
  ·cases h
 ·rename_i e i m A n o
  split at h
  ·rename_i s q
   simp only[aC]at h;subst h;simp only[aJ,gA,kh,jb,id,aP,aL]at d;simp only[VR]at f g;obtain⟨b,r,rfl⟩:=f;subst g;refine⟨.pointer (γ ⟨b.n,b.o+(n.toNat*s+0),ζ⟩),?_,?_⟩
   ·simp[RZ,tK,fL o,d.1,d.2,pd q,addr_add]
   ·simp only[VR]
    exact⟨b,r,rfl⟩
  ·cases h
 ·rename_i e i u a k m B A n o
  split at h
  ·rename_i s q
   split at h
   ·rename_i C
    subst C;simp only[aC]at h;subst h;simp only[aJ,gA,kh,jb,id,aP,aL]at d;simp only[VR]at f g;obtain⟨p,c,rfl,_,D,G⟩:=f;subst g;obtain⟨b,r,rfl⟩:=G (by omega);refine⟨.pointer (γ ⟨b.n,b.o+((a+n.toNat)*u+k),ζ⟩),?_,?_⟩
    ·simp[RZ,tK,fL o,d.1,d.2,pd q,addr_add,fZ]
    ·simp only[VR]
     exact⟨b,r,rfl⟩
   ·cases h
  ·cases h
 ·cases h
def IZ(P:bS)(t:ae)(cs:E AV)(off:O):χ AV:=
 match vZ P t,lh P t with
 |some ε,γ s=>γ (.agg ((cs.drop off).take s))
 |some η,γ _=>cs[off]?
 |_,_=>ζ
def aap{r:AV}{l:E τ}{w:ψ}(h:IZ P N G i=γ r)(b:aB R G l):∃v,(part N l.toArray i).run P w=.ok v w/\VR R r v:=by
 unfold IZ at h;split at h
 ·rename_i s a c
  simp only[aC]at h;subst h;refine⟨.agg ((l.drop i).take s).toArray,?_,?_⟩
  ·simp[part,Av a,pd c]
  ·simp only[VR]
   exact⟨_,rfl,(b.drop _).take _⟩
 ·rename_i s a c
  obtain⟨y,d,e⟩:=b.get h;refine⟨y,?_,e⟩;simp[part,Av a,d]
 ·cases h
def AV.parts:AV->χ (E AV)
 | .v (.agg a)=>γ (a.toList.map .v)
 | .agg b=>γ b
 |_=>ζ
def Uj{a:AV}{y:τ}(h:a.parts=γ G)(b:VR R a y):∃l:E τ,y=.agg l.toArray/\aB R G l:=by
 unfold AV.parts at h;split at h
 ·rename_i c
  simp only[aC]at h;subst h;simp only[VR]at b;exact⟨c.toList,by simp[b],aB.wU _⟩
 ·simp only[aC]at h
  subst h;simp only[VR]at b;exact b
 ·cases h
def M2(P:bS)(S:ae)(x:AV)(f:O):χ AV:=
 match P.underlying S,x.parts with
 |some (.struct a),γ c=>match a[f]?with
  |some b=>IZ P b.type c b.offset
  |none=>ζ
 |_,_=>ζ
def aj2{x r:AV}{y:τ}(h:M2 P N x i=γ r)(b:VR R x y):∃v,(Instr.field N y i).run P X=.ok v X/\VR R r v:=by
 unfold M2 at h;split at h
 ·rename_i a m c d
  split at h
  ·rename_i n e
   obtain⟨l,rfl,g⟩:=Uj d b;obtain⟨v,j,k⟩:=aap (w:=X) h g;refine⟨v,?_,k⟩;simp[Instr.field,fL c,e,asAgg,j]
  ·cases h
 ·cases h
def bY(s:ρ)(n:Z):Z:=((s.data[n.toNat]!).toNat:O)
def NZ(P:bS)(t:ae)(x a:AV):χ (AV×E ξ):=
 match P.underlying t,a with
 |some (.array b e),.v (.int _ n)=>match lh P e,x.parts with
  |some s,γ c=>(IZ P e c (n.toNat*s)).map λr=>(r,[κ (0<=n),κ (n<b)])
  |_,_=>ζ
 |some .string,.v (.int _ n)=>match x with
  | .v (.string s)=>γ (.v (.int .u8 (bY s n)),[κ (0<=n),κ (n<s.size)])
  |_=>ζ
 |_,_=>ζ
def alL{x a r:AV}{ob:E ξ}{y z:τ}(h:NZ P N x a=γ (r,ob))(b:aJ ob=ε)(f:VR R x y)(d:VR R a z):∃v,(xU N y z).run P X=.ok v X/\VR R r v:=by
 unfold NZ at h;split at h
 ·rename_i j e k n g
  split at h
  ·rename_i s C m o
   simp only[dL]at h;obtain⟨D,p,i⟩:=h;simp only[cI]at i;obtain⟨rfl,rfl⟩:=i;simp only[aJ,gA,kh,jb,id,aP,aL]at b;obtain⟨l,rfl,q⟩:=Uj o f;obtain⟨v,u,A⟩:=aap (w:=X) p q;simp only[VR]at d;subst d;exact⟨v,by simp[xU,tK,fL g,b.1,b.2,pd m,u],A⟩
  ·cases h
 ·rename_i k n g
  split at h
  ·rename_i s
   simp only[aC,cI]at h;obtain⟨rfl,rfl⟩:=h;simp only[aJ,gA,kh,jb,id,aP,aL]at b;simp only[VR]at f d;subst f d;refine⟨.int .u8 ((s.data[n.toNat]!).toNat:O),?_,by simp only[VR,bY]⟩;have c:n.toNat<s.size:=by omega
   have B:s[n.toNat]?=γ s[n.toNat]:=by simp[c]
   simp only[xU,tK];simp[fL g,b.1,B];have:n.toNat<s.data.size:=c;rw[yn s.data n.toNat this];rfl
  ·cases h
 ·cases h
def yX:χ AV->χ (χ Z)
 |none=>γ ζ
 |some (.v (.int _ n))=>γ (γ n)
 |_=>ζ
def Eu(P:bS)(H:E AB)(t:ae)(x:AV)(g o p:χ AV):χ Delta:=
 match P.underlying t,x,yX g,yX o,yX p with
 |some (.slice e),.own i a,γ l,γ h,γ m=>match lh P e,H.getD i .gone with
  |some s,.row _ n _ _ _=>if m.isSome&&h.isNone then ζ else
   γ {val:=.sl i s (l.getD 0).toNat 0 ((h.getD a) -(l.getD 0)).toNat (m.map λm=>(m-(l.getD 0)).toNat),rd:=[i],
       aw:=[κ (0<=l.getD 0),κ (l.getD 0<=h.getD a),κ (h.getD a<=m.getD a),κ (m.getD a<=a),Δ a n]}
  |_,_=>ζ
 |some (.slice e),.sl i w j k a f,γ l,γ h,γ m=>match lh P e with
  |some s=>if m.isSome&&h.isNone then ζ else if w=s then
   γ {val:=.sl i w (j+(l.getD 0).toNat) k ((h.getD a) -(l.getD 0)).toNat (match m with|some m=>γ (m-(l.getD 0)).toNat|none=>f.map λc=>c-(l.getD 0).toNat),
       aw:=[κ (0<=l.getD 0),κ (l.getD 0<=h.getD a),κ (h.getD a<=m.getD a),κ (m.getD a<=a)]}
   else ζ
  |none=>ζ
 |some .string,.v (.string s),γ l,γ h,γ ζ=>γ {val:=.v (.string (s.extract (l.getD 0).toNat (h.getD s.size).toNat)),aw:=[κ (0<=l.getD 0),κ (l.getD 0<=h.getD s.size),κ (h.getD s.size<=s.size)]}
 |some (.array n e),.ptr i w j k,γ ζ,γ ζ,γ ζ=>match lh P e with
  |some s=>γ {val:=.sl i s 0 (j*w+k) n (γ n)}
  |none=>ζ
 |_,_,_,_,_=>ζ
def aby{x:AV}{a b c:χ AV}(h:Eu P S N x a b c=γ j):j.put=[]/\j.new=[]:=by
 unfold Eu at h
 repeat(first|split at h|(simp only[aC]at h;subst h;exact⟨rfl,rfl⟩)|cases h)
inductive vL (ν:Nu):χ AV->χ τ->Prop
 |none:vL ν ζ ζ
 |some {a v}:VR ν a v->vL ν (γ a) (γ v)
def oK{a:χ AV}{v:χ τ}{n:χ Z}(h:yX a=γ n)(b:vL R a v):(n=ζ/\v=ζ)\/∃k m,n=γ m/\v=γ (.int k m):=by
 cases b with
 |none=>simp[yX]at h;exact .inl ⟨h.symm,rfl⟩
 |some b=>
  unfold yX at h;split at h
  ·rename_i e;cases e
  ·rename_i k m e
   cases e;simp only[aC]at h;subst h;simp only[VR]at b;exact .inr ⟨k,m,rfl,by rw[b]⟩
  ·cases h
def QI{P:bS}{w:ψ}{zI:ξ}{len cap:O}{i j o:χ τ}{l h m:χ Z}(p:(l=ζ/\i=ζ)\/∃k n,l=γ n/\i=γ (.int k n))(r:(h=ζ/\j=ζ)\/∃k n,h=γ n/\j=γ (.int k n))(u:(m=ζ/\o=ζ)\/∃k n,m=γ n/\o=γ (.int k n))(q:(m.isSome&&h.isNone)=η)(c:0<=l.getD 0)(a:l.getD 0<=h.getD len)(b:h.getD len<=m.getD cap)(f:m.getD cap<=cap):(xV zI len cap i j o).run P w=.ok ((l.getD 0).toNat,(h.getD len).toNat,(m.getD cap).toNat) w:=by
 rcases u with⟨rfl,rfl⟩|⟨x,g,rfl,rfl⟩
 ·rcases r with⟨rfl,rfl⟩|⟨v,d,rfl,rfl⟩
  ·rcases p with⟨rfl,rfl⟩|⟨s,t,rfl,rfl⟩
   ·simp[xV]
   ·simp at c a b f
    simp[xV,JX,tK,c,a]
  ·rcases p with⟨rfl,rfl⟩|⟨s,t,rfl,rfl⟩
   ·simp at c a b f
    simp[xV,JX,tK,a,b]
   ·simp at c a b f
    have:0<=d:=by omega
    have e:(d.toNat:Z)=d:=by omega
    simp[xV,JX,tK,c,a,b,this,e]
 ·rcases r with⟨rfl,rfl⟩|⟨v,d,rfl,rfl⟩
  ·simp at q
  ·rcases p with⟨rfl,rfl⟩|⟨s,t,rfl,rfl⟩
   ·simp at c a b f
    have:0<=g:=by omega
    have e:(g.toNat:Z)=g:=by omega
    simp[xV,JX,tK,a,b,f,this,e]
   ·simp at c a b f
    have:0<=g:=by omega
    have e:(g.toNat:Z)=g:=by omega
    have:0<=d:=by omega
    have e:(d.toNat:Z)=d:=by omega
    simp[xV,JX,tK, *]
def Gr(P:bS)(t:ae)(x y:AV)(base:O):χ Delta:=
 match P.underlying t with
 |some (.slice e)=>match P.info? e with
  |some i=>match i.zero with
   |some (.slice ζ 0 0)=>if i.size=1 then(match x,y with
    | .sl ..,.sl .. =>γ {val:=.sl base 1 0 0 2 (γ 2),new:=[.cells [x,y] e]}
    |_,_=>ζ)else ζ
   |_=>ζ
  |none=>ζ
 |_=>ζ
def Uk{a b c d e:O}{f:χ O}{y:τ}(h:VR R (.sl a b c d e f) y):∃p l c,y=.slice p l c:=by simp only[VR]at h;obtain⟨p,c,rfl,_⟩:=h;exact⟨p,_,c,rfl⟩
def aj4(hs:i=1)(b:χ cM)(c d:O)(e:χ cM)(f g:O):ln (λq=>γ (q*i,i)) ((RM (2*i)).map ((gj ζ 0 0).cells[· %(gj ζ 0 0).cells.size]!)) [(0,.slice b c d),(1,.slice e f g)]=γ #[.slice b c d,.slice e f g]:=by
 subst hs;simp[ln,RM,pE,Array.zipIdx];apply aX.ext
 ·simp
 ·intro a k h
  have j:a<2:=by simpa using h
  match a,j with
  |0,_=>simp
  |1,_=>simp
def afL{x y:AV}{q r:τ}(h:Gr P N x y i=γ j)(s:VR R x q)(u:VR R y r)(n:R i=ζ):∃v w' p,(adt N 2 #[(0,q),(1,r)]).run P X=.ok v w'/\ey R p i j X w' v:=by
 unfold Gr at h;split at h
 ·rename_i e z
  split at h
  ·rename_i a A
   split at h
   ·rename_i B
    split at h
    ·rename_i C
     split at h
     ·rename_i D G H I L M Q S T U W t
      simp only[aC]at h;subst h;obtain⟨d,f,g,rfl⟩:=Uk s;obtain⟨k,l,m,rfl⟩:=Uk u;have b:=run_buildSlice (P:=P) X N e 2 #[(0,.slice d f g),(1,.slice k l m)] #[.slice d f g,.slice k l m] a (.slice ζ 0 0) z A B (by omega) (by omega) (aj4 C _ _ _ _ _ _);refine⟨_,_,_,b,ey.zZ (c:=2) (o:=.cells #[.slice d f g,.slice k l m] e) n rfl rfl rfl rfl rfl rfl ?_ ?_⟩
      ·simp only[VR]
       exact⟨_,2,rfl,by simp,by omega,λ_=>⟨_,jL _ _ _,rfl⟩⟩
      ·refine⟨_,[.slice d f g,.slice k l m],jL _ _ _,rfl,?_,?_⟩
       ·show(X.heap.push _)[X.heap.size]?=_
        simp
       ·simp only[aB]
        exact⟨s.le (JC n),u.le (JC n),trivial⟩
     ·cases h
    ·cases h
   ·cases h
  ·cases h
 ·cases h
def BY(P:bS)(t:ae)(s x:AV):χ Delta:=
 match P.underlying t,x with
 |some (.slice e),.sl _ w _ _ l _=>match P.info? e with
  |some _=>(match w with
   |0=>(match l with
    |0=>(match s with
     | .v (.slice ζ 0 0)=>γ {val:=.v (.slice ζ 0 0)}
     | .sl b c d f g h=>γ {val:=.sl b c d f g h}
     |_=>ζ)
    |_=>ζ)
   |_=>ζ)
  |none=>ζ
 |_,_=>ζ
def Us{s x:AV}(h:BY P N s x=γ j):j.put=[]/\j.new=[]:=by
 unfold BY at h
 repeat(first|split at h|(simp only[aC]at h;subst h;exact⟨rfl,rfl⟩)|cases h)
def Ut{t ty e:ae}{i:TypeInfo}(d:P.underlying t=γ (.slice e))(f:P.info? e=γ i)(b p:χ cM)(l c h:O)(g:l<=c)(w:ψ):(rP #[t,t] ty #[.slice b l c,.slice p 0 h]).run P w=.ok (.slice b l c) w:=by
 cases p with
 |none=>cases b<;>simp[rP,fL d,tR,yr,f,adb,g,ada,TJ]
 |some a=>cases b<;>simp[rP,fL d,tR,yr,f,adb,g,ada,TJ,loadCells,loadCellsFrom]
def afk{t ty:ae}{s x:AV}{m n:τ}(h:BY P t s x=γ j)(hs:VR R s m)(o:VR R x n)(w:ψ):∃v,(rP #[t,t] ty #[m,n]).run P w=.ok v w/\VR R j.val v:=by
 unfold BY at h;split at h
 ·rename_i e a y d k l c q
  split at h
  ·rename_i i r
   split at h
   ·split at h
    ·simp only[VR]at o
     obtain⟨p,c,rfl,_,_,_⟩:=o;split at h
     ·simp only[aC]at h
      subst h;simp only[VR]at hs;subst hs;exact⟨_,Ut q r ζ p 0 0 c (aQ _) w,by simp only[VR]⟩
     ·simp only[aC]at h
      subst h;have f:=hs;simp only[VR]at f;obtain⟨b,u,rfl,_,g,_⟩:=f;exact⟨_,Ut q r b p _ u c g w,hs⟩
     ·cases h
    ·cases h
   ·cases h
  ·cases h
 ·cases h
def at6{x:AV}{lo hi mx:χ AV}{y:τ}{U W X:χ τ}{w:ψ}(h:Eu P S N x lo hi mx=γ j)(Q:aJ j.aw=ε)(u:VR R x y)(h1:vL R lo U)(h2:vL R hi W)(h3:vL R mx X)(hr:∀i∈j.rd,BR R i (S.getD i .gone) w):∃v,(Ff N y U W X).run P w=.ok v w/\VR R j.val v:=by
 unfold Eu at h;split at h
 ·rename_i e i d l T m z A f B
  split at h
  ·rename_i s rw' n t g ty H hH
   split at h
   ·cases h
   ·rename_i C
    simp only[aC]at h;subst h;simp only[aJ,gA,kh,jb,id,aP,aL]at Q;obtain⟨b1,b2,D,b4,b5⟩:=Q;have hln:=qt b5;have hbr:=hr i (by simp);rw[hH]at hbr;simp only[VR]at u;obtain⟨b,G,rfl⟩:=u;rcases hbr with⟨_,_,r⟩|⟨b',_,_,_,r,_,_,e4,_⟩
    ·rw[G]at r;cases r
    rw[G]at r;cases r;have r:=G;have q:T.getD d<=m.getD (b.c:Z)/\m.getD (b.c:Z)<=b.c:=by
     cases m with
     |none=>simp at D b4⊢;omega
     |some m=>simp at D b4⊢;omega
    have I:=QI (P:=P) (w:=w) (zI:=ε) (len:=d) (cap:=b.c) (oK A h1) (oK f h2) (oK B h3) ((E' _).mp C) b1 b2 q.1 q.2;refine⟨.slice (γ (if(m.getD (b.c:Z)).toNat=(l.getD 0).toNat then⟨b.n,b.o,ζ⟩else⟨b.n,b.o+(l.getD 0).toNat*s,ζ⟩)) ((T.getD d).toNat-(l.getD 0).toNat) ((m.getD (b.c:Z)).toNat-(l.getD 0).toNat),?_,?_⟩
    ·simp only[Ff,f_,fL z,g9,adv]
     rw[I];simp[pd H,addr_add];split<;>rfl
    ·simp only[VR]
     refine⟨γ (if(m.getD (b.c:Z)).toNat=(l.getD 0).toNat then⟨b.n,b.o,ζ⟩else⟨b.n,b.o+(l.getD 0).toNat*s,ζ⟩),(m.getD (b.c:Z)).toNat-(l.getD 0).toNat,?_,?_,?_,?_⟩
     ·congr 1
      omega
     ·intro c' o
      cases m with
      |none=>simp at o
      |some m=>simp at o⊢;omega
     ·omega
     ·intro hc
      exact⟨b,r,by rw[gc,im]⟩
  ·cases h
 ·rename_i e i t a k d L l T m z A f B
  split at h
  ·rename_i s H
   split at h
   ·cases h
   ·rename_i C
    split at h
    ·rename_i hw
     subst hw;simp only[aC]at h;subst h;simp only[aJ,gA,kh,jb,id,aP,aL]at Q;obtain⟨b1,b2,D,b4⟩:=Q;simp only[VR]at u;obtain⟨p,c,rfl,hcap,hlc,hp⟩:=u;have q:T.getD d<=m.getD (c:Z)/\m.getD (c:Z)<=c:=by
      cases m with
      |none=>simp at D b4⊢;omega
      |some m=>simp at D b4⊢;omega
     have I:=QI (P:=P) (w:=w) (zI:=ε) (len:=d) (cap:=c) (oK A h1) (oK f h2) (oK B h3) ((E' _).mp C) b1 b2 q.1 q.2;refine⟨.slice (if(m.getD (c:Z)).toNat=(l.getD 0).toNat then p else p.map (·.add ((l.getD 0).toNat*t))) ((T.getD d).toNat-(l.getD 0).toNat) ((m.getD (c:Z)).toNat-(l.getD 0).toNat),?_,?_⟩
     ·simp only[Ff,f_,fL z,g9,adv]
      rw[I];simp[pd H]
     ·simp only[VR]
      refine⟨if(m.getD (c:Z)).toNat=(l.getD 0).toNat then p else p.map (·.add ((l.getD 0).toNat*t)),(m.getD (c:Z)).toNat-(l.getD 0).toNat,?_,?_,?_,?_⟩
      ·congr 1
       omega
      ·intro c' o
       cases m with
       |none=>simp only[dL]at o;obtain⟨c0,hc0,rfl⟩:=o;have:=hcap c0 hc0;simp;omega
       |some m=>simp at o⊢;omega
      ·omega
      ·intro hc
       obtain⟨b,r,e2⟩:=hp (by omega);refine⟨b,r,?_⟩;rw[gc,e2,Bw,addr_add]
       congr 2
       rw[fZ];omega
    ·cases h
  ·cases h
 ·rename_i s l T z A f B
  simp only[aC]at h;subst h;simp only[aJ,gA,kh,jb,id,aP,aL]at Q;obtain⟨b1,b2,D⟩:=Q;simp only[VR]at u;subst u;rcases oK B h3 with⟨_,rfl⟩|⟨_,_,M,_⟩
  ·have I:=QI (P:=P) (w:=w) (zI:=η) (len:=s.size) (cap:=s.size) (m:=ζ) (oK A h1) (oK f h2) (.inl ⟨rfl,rfl⟩) rfl b1 b2 (by simpa using D) (by simp)
   refine⟨_,?_,by simp only[VR];rfl⟩;simp only[Ff,f_,fL z,g9,adv];simp[I]
  ·cases M
 ·rename_i n e i t a k z A f B
  split at h
  ·rename_i s H
   simp only[aC]at h;subst h;simp only[VR]at u;obtain⟨b,I,rfl⟩:=u;rcases oK A h1 with⟨_,rfl⟩|⟨_,_,M,_⟩
   ·rcases oK f h2 with⟨_,rfl⟩|⟨_,_,M,_⟩
    ·rcases oK B h3 with⟨_,rfl⟩|⟨_,_,M,_⟩
     ·refine⟨.slice (γ ⟨b.n,b.o+(a*t+k),ζ⟩) n n,?_,?_⟩
      ·simp[Ff,fL z,Bd,xV,pd H,vn]
      ·simp only[VR]
       exact⟨_,n,rfl,by simp,aQ _,λ_=>⟨b,I,by simp⟩⟩
     ·cases M
    ·cases M
   ·cases M
  ·cases h
 ·cases h
abbrev Spec:=E AV->E AB->O->χ Delta
def Uf(ν:Nu)(H:E AB)(δ:Delta):Prop:=∀i c j b a,(i,c)∈δ.put->j∈δ.rd->i≠j->(H.getD j .gone).live=ε->ν i=γ b->ν j=γ a->b.n≠a.n
def ak(P:bS)(f:dm)(S:Spec):Prop:=
 (∀args w,(g_ f args).run P w=.ok (.enter f args) w)/\
 ∀h H a d g (c:E τ) w,S h H a=γ d->aJ d.aw=ε->aB g h c->(∀i∈d.rd,BR g i (H.getD i .gone) w)->(∀i b,g i=γ b->b.n<w.heap.size)->(∀j,j<d.new.length->g (a+j)=ζ)->Uf g H d->a4 (BI g d w) w->
  aM P f c.toArray w λe l=>∃v k,e=.returned v/\ey g k a d w l v
abbrev aG:=dm->χ Spec
def aK(P:bS)(Γ:aG):Prop:=∀f S,Γ f=γ S->ak P f S
def j7(P:bS)(s:Sem τ):χ Delta:=(m_ P s).map λx=>{val:=.v x}
def PS(q:ξ)(a b:AV):AV:=
 match a,b with
 | .v (.bool x),.v (.bool y)=>.v (.bool (cond q x y))
 |_,_=>cond q a b
def ari{a b:AV}{x y:τ}(c:VR R a x)(d:VR R b y):VR R (PS q a b) (if q then x else y):=by
 unfold PS;split
 ·simp only[VR]at c d⊢
  subst c d;cases q<;>rfl
 ·cases q
  ·exact d
  ·exact c
def Ab(P:bS)(t:ae)(l:E τ)(off:O):χ τ:=
 match vZ P t,lh P t with
 |some ε,γ s=>γ (.agg ((l.drop off).take s).toArray)
 |some η,γ _=>l[off]?
 |_,_=>ζ
def I0{l:E τ}{v:τ}(h:Ab P N l i=γ v)(w:ψ):(part N l.toArray i).run P w=.ok v w:=by
 unfold Ab at h;split at h
 ·rename_i s a b
  simp only[aC]at h;subst h;simp[part,Av a,pd b]
 ·rename_i s a b
  simp[part,Av a,h]
 ·cases h
def Cr(P:bS)(f:ae->τ->τ->χ ξ)(xs d:E τ):E Field->χ ξ
 |[]=>γ ε
 |c::e=>if c.name≠ "_" then(match Ab P c.type xs c.offset,Ab P c.type d c.offset with
  |some a,γ b=>(match f c.type a b,Cr P f xs d e with
   |some q,γ r=>γ (q&&r)
   |_,_=>ζ)
  |_,_=>ζ)else ζ
def Cs(P:bS)(f:τ->τ->χ ξ)(e:ae)(c:O)(xs d:E τ):E O->χ ξ
 |[]=>γ ε
 |i::g=>match Ab P e xs (i*c),Ab P e d (i*c)with
  |some a,γ b=>(match f a b,Cs P f e c xs d g with
   |some q,γ r=>γ (q&&r)
   |_,_=>ζ)
  |_,_=>ζ
def cm(a b:ρ):ξ:=κ (a.toList=b.toList)
def wk(P:bS):O->ae->τ->τ->χ ξ
 |0,_,_,_=>ζ
 |d+1,t,x,y=>match P.underlying t,x,y with
  |some (.int _),.int k a,.int g b=>if k=g then γ (a==b)else ζ
  |some .bool,.bool a,.bool b=>γ (a==b)
  |some .string,.string a,.string b=>γ (cm a b)
  |some (.struct h),.agg c,.agg f=>if P.stoodInHeld t=η then Cr P (wk P d) c.toList f.toList h.toList else ζ
  |some (.array n e),.agg c,.agg f=>(match P.info? e with
   |some _=>Cs P (wk P d e) e (P.cellsOf e) c.toList f.toList (dK n)
   |none=>ζ)
  |_,_,_=>ζ
def B1(l r:E υ):(l==r)=κ (l=r):=by rw[kg];simp
def VG{P:bS}{d:O}{f:ae->τ->τ->χ ξ}(e:∀t x y b,f t x y=γ b->∀w:ψ,(pC d t x y).run P w=.ok b w)(xs c:E τ):∀(a:E Field)(b:ξ),Cr P f xs c a=γ b->∀w:ψ,(aec d xs.toArray c.toArray a).run P w=.ok b w
 |[],b,h,w=>by simp only[Cr,aC]at h;subst h;simp[aec]
 |n::a,b,h,w=>by
  unfold Cr at h;split at h
  ·rename_i g
   split at h
   ·rename_i x y i j
    split at h
    ·rename_i q r k l
     simp only[aC]at h;subst h;have m:=VG e xs c a r l w;simp only[aec];rw[aU g];simp only[f_,I0 i,I0 j,g9,e _ _ _ _ k];cases q
     ·simp
     ·simpa using m
    ·cases h
   ·cases h
  ·cases h
def VH{P:bS}{d:O}{e:ae}{f:τ->τ->χ ξ}(g:∀x y b,f x y=γ b->∀w:ψ,(pC d e x y).run P w=.ok b w)(c:O)(xs a:E τ):∀(is:E O)(b:ξ),Cs P f e c xs a is=γ b->∀w:ψ,(Op.eqItems d e c xs.toArray a.toArray is).run P w=.ok b w
 |[],b,h,w=>by simp only[Cs,aC]at h;subst h;simp[Op.eqItems]
 |i::is,b,h,w=>by
  unfold Cs at h;split at h
  ·rename_i x y j k
   split at h
   ·rename_i q r l m
    simp only[aC]at h;subst h;have n:=VH g c xs a is r m w;simp only[Op.eqItems];simp only[f_,I0 j,I0 k,g9,g _ _ _ l];cases q
    ·simp
    ·simpa using n
   ·cases h
  ·cases h
def Mz{P:bS}(k:O):∀(d:O)(t:ae)(x y:τ)(b:ξ),wk P d t x y=γ b->∀w:ψ,(pC (d+k) t x y).run P w=.ok b w
 |0,t,x,y,b,h,w=>by simp[wk]at h
 |d+1,t,x,y,b,h,w=>by
  have o:=Mz (P:=P) k d;rw[So];unfold wk at h;split at h
  ·rename_i q r a z f c
   split at h
   ·rename_i s
    subst s;cases h;exact run_equalIn_int w (d+k) t r q a f c
   ·cases h
  ·rename_i a f c
   cases h;exact run_equalIn_bool' w (d+k) t a f c
  ·rename_i a f c
   cases h;rw[run_equalIn_string w (d+k) t a f c,B1];rfl
  ·rename_i p g j c
   split at h
   ·rename_i u
    have l:P.fieldsOf t=p:=by simp[Program.fieldsOf,c]
    rw[run_equalIn_struct w (d+k) t g j (by rw[l];exact c) u,l];have:=VG (P:=P) (d:=d+k) (λt x y b m=>o t x y b m) g.toList j.toList p.toList b h w;simpa using this
   ·cases h
  ·rename_i n e g j c
   split at h
   ·rename_i i v
    rw[run_equalIn_array w (d+k) g j c v];have:=VH (P:=P) (d:=d+k) (λx y b m=>o e x y b m) (P.cellsOf e) g.toList j.toList (dK n) b h w;simpa using this
   ·cases h
  ·cases h
def Mw(P:bS)(d:ni)(t:ae)(x y:τ):χ Delta:=
 match d,x,y with
 | .eql,.agg a,.agg b=>if P.eqGuardType P.depth t=η then(wk P 20 t (.agg a) (.agg b)).map λq=>{val:=.v (.bool q)}else ζ
 | .neq,.agg a,.agg b=>if P.eqGuardType P.depth t=η then(wk P 20 t (.agg a) (.agg b)).map λq=>{val:=.v (.bool (!q))}else ζ
 |_,_,_=>ζ
def VF{a:ni}{ox oy:cP}{x y:τ}(h:Mw P a N x y=γ j)(ν:Nu)(w:ψ):(j.put=[]/\j.new=[])/\∃v,(do fK a N ox oy x y;binOp a N x y:Sem τ).run P w=.ok v w/\VR ν j.val v:=by
 unfold Mw at h;split at h
 ·rename_i b c
  split at h
  ·rename_i d
   simp only[dL]at h;obtain⟨q,e,rfl⟩:=h;have:=Mz 9980 20 N _ _ q e w;refine⟨⟨rfl,rfl⟩,.bool q,?_,by simp only[VR]⟩;simp only[f_,run_eqGuard_agg (P:=P) w .eql N ox oy b c d,g9,run_eql_struct];rw[show(10000:O)=20+9980 from rfl,this];simp
  ·cases h
 ·rename_i b c
  split at h
  ·rename_i d
   simp only[dL]at h;obtain⟨q,e,rfl⟩:=h;have:=Mz 9980 20 N _ _ q e w;refine⟨⟨rfl,rfl⟩,.bool (!q),?_,by simp only[VR]⟩;simp only[f_,run_eqGuard_agg (P:=P) w .neq N ox oy b c d,g9,run_neq_struct];rw[show(10000:O)=20+9980 from rfl,this];simp
  ·cases h
 ·cases h
def M9(c:ni)(k:RV)(a b:O):χ (χ O):=
 match c with
 | .add=>γ (k.format.add a b)
 | .sub=>γ (k.format.sub a b)
 | .mul=>γ (k.format.mul a b)
 |_=>ζ
def M_(e:ni)(k:RV)(a b c d:O):χ (χ O×χ O):=
 match e with
 | .add=>γ (k.format.add a c,k.format.add b d)
 | .sub=>γ (k.format.sub a c,k.format.sub b d)
 |_=>ζ
def akp{c:ni}{k:RV}{a b v:O}{ox oy:cP}(h:M9 c k a b=γ (γ v))(w:ψ):(do fK c N ox oy (.float k a) (.float k b);binOp c N (.float k a) (.float k b):Sem τ).run P w=.ok (.float k v) w:=by unfold M9 at h;cases c<;>simp only[aC,reduceCtorEq]at h<;>simp[fK,binOp,Op.floatArith,h]
def akq{e:ni}{k:RV}{a b c d v u:O}{ox oy:cP}(h:M_ e k a b c d=γ (γ v,γ u))(w:ψ):(do fK e N ox oy (.complex k a b) (.complex k c d);binOp e N (.complex k a b) (.complex k c d):Sem τ).run P w=.ok (.complex k v u) w:=by unfold M_ at h;cases e<;>simp only[aC,cI,reduceCtorEq]at h<;>simp[fK,binOp,Op.complexOp,Op.Complex.arith,Op.floatArith,h.1,h.2]
def DT(P:bS)(d:ni)(t:ae)(x:AV)(y:τ):χ Delta:=
 match d,x,y with
 | .eql,.own _ _,.slice ζ _ _=>(match P.underlying t with
  |some (.slice _)=>γ {val:=.v (.bool η)}
  |_=>ζ)
 | .neq,.own _ _,.slice ζ _ _=>(match P.underlying t with
  |some (.slice _)=>γ {val:=.v (.bool ε)}
  |_=>ζ)
 | .eql,.sl _ _ _ _ b _,.slice ζ _ _=>(match P.underlying t with
  |some (.slice _)=>γ {val:=.v (.bool η),aw:=[κ (0<b)]}
  |_=>ζ)
 | .neq,.sl _ _ _ _ b _,.slice ζ _ _=>(match P.underlying t with
  |some (.slice _)=>γ {val:=.v (.bool ε),aw:=[κ (0<b)]}
  |_=>ζ)
 | .eql,.ptr _ _ _ _,.pointer ζ=>(match P.underlying t with
  |some (.pointer _)=>γ {val:=.v (.bool η)}
  |_=>ζ)
 | .neq,.ptr _ _ _ _,.pointer ζ=>(match P.underlying t with
  |some (.pointer _)=>γ {val:=.v (.bool ε)}
  |_=>ζ)
 |_,_,_=>ζ
def aoj(d:O)(t e:ae)(a:cM)(n c b f:O)(h:P.underlying t=γ (.slice e))(w:ψ):(pC (d+1) t (.slice (γ a) n c) (.slice ζ b f)).run P w=.ok η w:=by simp[pC,fL h]
def aoi(d:O)(t e:ae)(a:cM)(h:P.underlying t=γ (.pointer e))(w:ψ):(pC (d+1) t (.pointer (γ a)) (.pointer ζ)).run P w=.ok η w:=by simp[pC,fL h]
def IF{t e:ae}(a:cM)(n c b d:O)(ox oy:cP)(h:P.underlying t=γ (.slice e))(w:ψ):(do fK .eql t ox oy (.slice (γ a) n c) (.slice ζ b d);binOp .eql t (.slice (γ a) n c) (.slice ζ b d):Sem τ).run P w=.ok (.bool η) w/\(do fK .neq t ox oy (.slice (γ a) n c) (.slice ζ b d);binOp .neq t (.slice (γ a) n c) (.slice ζ b d):Sem τ).run P w=.ok (.bool ε) w:=by have e:(pC 10000 t (.slice (γ a) n c) (.slice ζ b d)).run P w=.ok η w:=aoj 9999 t e a n c b d h w;constructor<;>simp[fK,binOp,Sv,Sw,e]
def Zk{t e:ae}(a:cM)(ox oy:cP)(h:P.underlying t=γ (.pointer e))(w:ψ):(do fK .eql t ox oy (.pointer (γ a)) (.pointer ζ);binOp .eql t (.pointer (γ a)) (.pointer ζ):Sem τ).run P w=.ok (.bool η) w/\(do fK .neq t ox oy (.pointer (γ a)) (.pointer ζ);binOp .neq t (.pointer (γ a)) (.pointer ζ):Sem τ).run P w=.ok (.bool ε) w:=by have e:(pC 10000 t (.pointer (γ a)) (.pointer ζ)).run P w=.ok η w:=aoi 9999 t e a h w;constructor<;>simp[fK,binOp,Sv,Sw,e]
def Ct(P:bS)(b:ni)(t:ae)(oy:cP)(x:AV)(y:τ):χ Delta:=
 match b,oy,x,y with
 | .eql,.const _,.err q,.nilIface=>(match P.underlying t with
  |some (.interface _)=>γ {val:=.v (.bool (!q))}
  |_=>ζ)
 | .neq,.const _,.err q,.nilIface=>(match P.underlying t with
  |some (.interface _)=>γ {val:=.v (.bool q)}
  |_=>ζ)
 |_,_,_,_=>ζ
def aiU(d:O)(t:ae)(c:aX (String×ae))(x:τ)(q:ξ)(a:cond q (∃t' b,x=.iface t' b) (x=.nilIface))(h:P.underlying t=γ (.interface c))(w:ψ):(pC (d+1) t x .nilIface).run P w=.ok (!q) w:=by
 cases q
 ·obtain rfl:x=.nilIface:=a
  simp[pC,fL h]
 ·obtain⟨t',b,rfl⟩:=a
  simp[pC,fL h]
def VI{b:aX (String×ae)}{x:τ}(ox:cP)(c:τ)(a:cond q (∃t' d,x=.iface t' d) (x=.nilIface))(h:P.underlying N=γ (.interface b))(w:ψ):(do fK .eql N ox (.const c) x .nilIface;binOp .eql N x .nilIface:Sem τ).run P w=.ok (.bool (!q)) w/\(do fK .neq N ox (.const c) x .nilIface;binOp .neq N x .nilIface:Sem τ).run P w=.ok (.bool q) w:=by
 have e:(pC 10000 N x .nilIface).run P w=.ok (!q) w:=aiU 9999 N b x q a h w;cases q
 ·obtain rfl:x=.nilIface:=a
  constructor<;>simp[fK,binOp,Sv,Sw,e]
 ·obtain⟨t',d,rfl⟩:=a
  constructor<;>simp[fK,binOp,Sv,Sw,e]
def aiS{a:ni}{oy:cP}{x:AV}{y:τ}(h:Ct P a N oy x y=γ j):j.put=[]/\j.new=[]:=by unfold Ct at h;split at h<;>first|(split at h<;>first|(cases h;exact⟨rfl,rfl⟩)|cases h)|cases h
def aiT{b:ni}{ox oy:cP}{x:AV}{c y:τ}(h:Ct P b N oy x y=γ j)(a:VR R x c)(w:ψ):∃v,(do fK b N ox oy c y;binOp b N c y:Sem τ).run P w=.ok v w/\VR R j.val v:=by
 unfold Ct at h;split at h
 ·split at h
  ·rename_i d
   cases h;simp only[VR]at a;exact⟨_,(VI ox _ a d w).1,by simp only[VR]⟩
  ·cases h
 ·split at h
  ·rename_i d
   cases h;simp only[VR]at a;exact⟨_,(VI ox _ a d w).2,by simp only[VR]⟩
  ·cases h
 ·cases h
def aog{a:ni}{x:AV}{y:τ}(h:DT P a N x y=γ j):j.put=[]/\j.new=[]:=by unfold DT at h;split at h<;>first|(split at h<;>first|(cases h;exact⟨rfl,rfl⟩)|cases h)|cases h
def aoh{e:ni}{ox oy:cP}{x:AV}{f y:τ}(h:DT P e N x y=γ j)(i:aJ j.aw=ε)(a:VR R x f)(w:ψ):∃v,(do fK e N ox oy f y;binOp e N f y:Sem τ).run P w=.ok v w/\VR R j.val v:=by
 unfold DT at h;split at h
 ·split at h
  ·rename_i d
   cases h;simp only[VR]at a;obtain⟨b,_,rfl⟩:=a;exact⟨_,(IF _ _ _ _ _ ox oy d w).1,by simp only[VR]⟩
  ·cases h
 ·split at h
  ·rename_i d
   cases h;simp only[VR]at a;obtain⟨b,_,rfl⟩:=a;exact⟨_,(IF _ _ _ _ _ ox oy d w).2,by simp only[VR]⟩
  ·cases h
 ·split at h
  ·rename_i d
   cases h;simp only[VR]at a;obtain⟨p,c,rfl,_,k,g⟩:=a;have l:=aV (by simpa[aJ]using i);obtain⟨b,_,rfl⟩:=g (by omega);exact⟨_,(IF _ _ _ _ _ ox oy d w).1,by simp only[VR]⟩
  ·cases h
 ·split at h
  ·rename_i d
   cases h;simp only[VR]at a;obtain⟨p,c,rfl,_,k,g⟩:=a;have l:=aV (by simpa[aJ]using i);obtain⟨b,_,rfl⟩:=g (by omega);exact⟨_,(IF _ _ _ _ _ ox oy d w).2,by simp only[VR]⟩
  ·cases h
 ·split at h
  ·rename_i d
   cases h;simp only[VR]at a;obtain⟨b,_,rfl⟩:=a;exact⟨_,(Zk _ ox oy d w).1,by simp only[VR]⟩
  ·cases h
 ·split at h
  ·rename_i d
   cases h;simp only[VR]at a;obtain⟨b,_,rfl⟩:=a;exact⟨_,(Zk _ ox oy d w).2,by simp only[VR]⟩
  ·cases h
 ·cases h
def aI(a b:ρ):ρ:=a++b
def vh(l:E υ):ρ:=⟨l.toArray⟩
def tq(z:Z):υ:=UInt8.ofNat z.toNat
def o0(a b:ρ):ξ:=Op.bytesLess a.toList b.toList
def qO(a:ρ):cm a a=ε:=di rfl
def B4(P:bS)(f:ni)(t:ae)(ox oy:cP)(x y:AV):χ Delta:=
 match x.iH,y.iH with
 |some (.int k a),γ (.int g b)=>
  (match f with
  | .quo=>if k=g then γ {val:=.v (.int k (k.wrap (a.tdiv b))),aw:=[!κ (b=0)]}else ζ
  | .rem=>if k=g then γ {val:=.v (.int k (a.tmod b)),aw:=[!κ (b=0)]}else ζ
  |_=>j7 P (do fK f t ox oy (.int k a) (.int g b);binOp f t (.int k a) (.int g b)))
 |some (.float k a),γ (.float g b)=>(match M9 f k a b with
  |some r=>if k=g then γ {val:=.v (.float k (r.getD 0)),aw:=[r.isSome]}else ζ
  |none=>j7 P (do fK f t ox oy (.float k a) (.float g b);binOp f t (.float k a) (.float g b)))
 |some (.complex k a b),γ (.complex g c d)=>(match M_ f k a b c d with
  |some r=>if k=g then γ {val:=.v (.complex k (r.1.getD 0) (r.2.getD 0)),aw:=[r.1.isSome,r.2.isSome]}else ζ
  |none=>j7 P (do fK f t ox oy (.complex k a b) (.complex g c d);binOp f t (.complex k a b) (.complex g c d)))
 |some (.string a),γ (.string b)=>(match f with
  | .add=>γ {val:=.v (.string (aI a b)),aw:=[Δ (a.size+b.size) 9223372036854775807]}
  | .eql=>γ {val:=.v (.bool (cm a b))}
  | .neq=>γ {val:=.v (.bool (!cm a b))}
  | .lss=>γ {val:=.v (.bool (o0 a b))}
  | .leq=>γ {val:=.v (.bool (o0 a b||cm a b))}
  | .gtr=>γ {val:=.v (.bool (!(o0 a b||cm a b)))}
  | .geq=>γ {val:=.v (.bool (!o0 a b))}
  |_=>j7 P (do fK f t ox oy (.string a) (.string b);binOp f t (.string a) (.string b)))
 |some j,γ i=>(match Mw P f t j i with
  |some l=>γ l
  |none=>j7 P (do fK f t ox oy j i;binOp f t j i))
 |none,γ i=>(match Ct P f t oy x i with
  |some l=>γ l
  |none=>DT P f t x i)
 |_,_=>ζ
def jJ{s:Sem τ}(h:j7 P s=γ j):j.put=[]/\j.new=[]:=by simp only[j7,dL]at h;obtain⟨x,_,rfl⟩:=h;exact⟨rfl,rfl⟩
def mr{s:Sem τ}(h:j7 P s=γ j)(ν:Nu)(w:ψ):∃v,s.run P w=.ok v w/\VR ν j.val v:=by simp only[j7,dL]at h;obtain⟨x,a,rfl⟩:=h;exact⟨x,nX a w,by simp only[VR]⟩
def UA{b:ni}{ox oy:cP}{x y:AV}(h:B4 P b N ox oy x y=γ j):j.put=[]/\j.new=[]:=by
 unfold B4 at h
 repeat(first|exact jJ h|exact aog h|(rename_i a;cases h;exact aiS a)|(rename_i a;cases h;exact(VF (ox:=ox) (oy:=oy) a (λ_=>ζ) default).1)|split at h|(simp only[aC]at h;subst h;exact⟨rfl,rfl⟩)|cases h)
def afE{z:ni}{ox oy:cP}{x y:AV}{A B:τ}(h:B4 P z N ox oy x y=γ j)(n:aJ j.aw=ε)(l:VR R x A)(o:VR R y B)(w:ψ):∃v,(do fK z N ox oy A B;binOp z N A B:Sem τ).run P w=.ok v w/\VR R j.val v:=by
 unfold B4 at h;split at h
 ·rename_i k a H b g e
  have i:=jd g l;have f:=jd e o;subst i f;split at h
  ·split at h
   ·rename_i m
    subst m;simp only[aC]at h;subst h;have C:b≠0:=by simpa[aJ]using n
    exact⟨.int k (k.wrap (a.tdiv b)),by simp[fK,binOp,Op.intDiv,C],by simp only[VR]⟩
   ·cases h
  ·split at h
   ·rename_i m
    subst m;simp only[aC]at h;subst h;have C:b≠0:=by simpa[aJ]using n
    exact⟨.int k (a.tmod b),by simp[fK,binOp,Op.intDiv,C],by simp only[VR]⟩
   ·cases h
  ·exact mr h R w
 ·rename_i k a H b g e
  have i:=jd g l;have f:=jd e o;subst i f;split at h
  ·rename_i r D
   split at h
   ·rename_i m
    subst m;simp only[aC]at h;subst h;have p:r.isSome=ε:=by simpa[aJ]using n
    obtain⟨v,rfl⟩:=tG.1 p;exact⟨.float k v,akp D w,by simp only[VR,iK]⟩
   ·cases h
  ·exact mr h R w
 ·rename_i k a b H c d g e
  have i:=jd g l;have f:=jd e o;subst i f;split at h
  ·rename_i r D
   split at h
   ·rename_i m
    subst m;simp only[aC]at h;subst h;have p:r.1.isSome=ε/\r.2.isSome=ε:=by simpa[aJ]using n
    obtain⟨M,Q⟩:=r;obtain⟨q,s⟩:=p;simp only at q s;obtain⟨v,rfl⟩:=tG.1 q;obtain⟨u,rfl⟩:=tG.1 s;exact⟨.complex k v u,akq D w,by simp only[VR,iK]⟩
   ·cases h
  ·exact mr h R w
 ·rename_i a b g e
  have i:=jd g l;have f:=jd e o;subst i f;split at h
  ·simp only[aC]at h
   subst h;have p:a.size+b.size<=9223372036854775807:=by simpa[aJ,bl]using n
   exact⟨.string (aI a b),by simp[fK,binOp,run_string_add_sum w a b p,aI],by simp only[VR]⟩
  ·simp only[aC]at h
   subst h;exact⟨.bool (cm a b),by simp[fK,binOp,FA,B1,cm],by simp only[VR]⟩
  ·simp only[aC]at h
   subst h;exact⟨.bool (!cm a b),by simp[fK,binOp,FA,B1,cm],by simp only[VR]⟩
  ·simp only[aC]at h
   subst h;exact⟨.bool (o0 a b),by simp[fK,binOp,FA,o0],by simp only[VR]⟩
  ·simp only[aC]at h
   subst h;exact⟨.bool ((o0 a b||cm a b)),by simp[fK,binOp,FA,B1,cm,o0],by simp only[VR]⟩
  ·simp only[aC]at h
   subst h;exact⟨.bool ((!(o0 a b||cm a b))),by simp[fK,binOp,FA,B1,cm,o0],by simp only[VR]⟩
  ·simp only[aC]at h
   subst h;exact⟨.bool ((!o0 a b)),by simp[fK,binOp,FA,o0],by simp only[VR]⟩
  ·exact mr h R w
 ·rename_i I L _ _ _ g e
  have i:=jd g l;have f:=jd e o;subst i f;split at h
  ·rename_i G
   cases h;exact(VF G R w).2
  ·exact mr h R w
 ·rename_i e
  have f:=jd e o;subst f;split at h
  ·rename_i G
   cases h;exact aiT G l w
  ·exact aoh h n l w
 ·cases h
def Ac(a:cP->AV):E (O×cP)->χ (E (O×τ))
 |[]=>γ []
 |p::l=>match AV.iH (a p.2),Ac a l with
  |some x,γ b=>γ ((p.1,x)::b)
  |_,_=>ζ
def PO{ν:Nu}{a:cP->AV}{σ:cP->τ}:∀{l:E (O×cP)}{ps:E (O×τ)},Ac a l=γ ps->(∀p∈l,VR ν (a p.2) (σ p.2))->l.map (λp=>(p.1,σ p.2))=ps
 |[],ps,h,_=>by simp only[Ac,aC]at h;subst h;rfl
 |p::l,ps,h,b=>by
  simp only[Ac]at h;split at h
  ·rename_i x f c d
   simp only[aC]at h;subst h;rw[eG,PO d λq e=>b q (l8 _ e),jd c (b p jA)]
  ·cases h
def V4{pl:O->χ (O×O)}{z:aX τ}{y1:τ}{b:aX τ}(h:ln pl z [(0,y1)]=γ b)(c:y1.cells= #[y1]):∃off,off<z.size/\∀y:τ,y.cells= #[y]->ln pl z [(0,y)]=γ (z.setIfInBounds off y):=by
 unfold ln at h;split at h
 ·cases h
 ·rename_i off size d
  split at h
  ·cases h
  ·rename_i a
   rw[c]at a;simp only[Fs,bZ,eY,bH,ne_eq,po,aL,vH,Decidable.not_not,gt_iff_lt]at a;refine⟨off,by omega,λy e=>?_⟩;unfold ln;rw[d];simp only[e];rw[bI (by simp;omega)];simp[ln]
def afN{y1:τ}{A:aX τ}(a:(l7 N #[(0,y1)]).run P X=.ok (.agg A) X)(r:y1.cells= #[y1]):∃(z:aX τ)(off:O),off<z.size/\∀y:τ,y.cells= #[y]->(l7 N #[(0,y)]).run P X=.ok (.agg (z.setIfInBounds off y)) X:=by
 unfold l7 at a;rw[f_]at a;cases h:(FU N).run P X with
 |ok e B=>
  rw[h,g9,f_]at a;cases j:(underlying N).run P B with
  |ok u v=>
   rw[j,g9]at a;split at a
   ·rename_i b
    rw[f_]at a;cases c:BA P (Array.mapM (λf:Field=>do
     let s<-tR f.type
     pure (f.offset,s)) b) v with
    |ok k C=>
     rw[c,g9]at a;split at a
     ·rename_i d m
      obtain⟨off,o,p⟩:=V4 (pl:=λx=>k[x]?) m r;simp only[SD,FG]at a;obtain⟨_,rfl⟩:=a;refine⟨e.cells,off,o,λy q=>?_⟩;unfold l7;rw[f_,h,g9,f_,j,g9];simp only[f_,c,g9];rw[show ln (λx=>k[x]?) e.cells (#[(0,y)]:aX (O×τ)).toList=γ (e.cells.setIfInBounds off y)from p y q];rfl
     ·exact aR a (by simp[stuck])
    |_=>rw[c]at a;cases a
   ·rename_i n g
    rw[f_]at a;cases c:BA P (tR g) v with
    |ok l C=>
     rw[c,g9]at a;split at a
     ·rename_i d m
      obtain⟨off,o,p⟩:=V4 (pl:=λi=>γ (i*l,l)) m r;simp only[SD,FG]at a;obtain⟨_,rfl⟩:=a;refine⟨e.cells,off,o,λy q=>?_⟩;unfold l7;rw[f_,h,g9,f_,j,g9];simp only[f_,c,g9];rw[show ln (λi=>γ (i*l,l)) e.cells (#[(0,y)]:aX (O×τ)).toList=γ (e.cells.setIfInBounds off y)from p y q];rfl
     ·exact aR a (by simp[stuck])
    |_=>rw[c]at a;cases a
   ·exact aR a (by simp[stuck])
  |_=>rw[j]at a;cases a
 |_=>rw[h]at a;cases a
def B7(P:bS)(t:ae)(x:AV):χ Delta:=
 match x,m_ P (l7 t #[(0,.slice ζ 0 0)]),m_ P (l7 t #[(0,.slice ζ 1 1)])with
 | .sl i w j k l c,γ (.agg b),γ (.agg d)=>match b.toList,d.toList with
  | .slice ζ 0 0::a,.slice ζ 1 1::_=>γ {val:=.agg (.sl i w j k l c::a.map .v)}
  |_,_=>ζ
 |_,_,_=>ζ
def UI{x:AV}(h:B7 P N x=γ j):j.put=[]/\j.new=[]:=by
 unfold B7 at h;split at h
 ·split at h
  ·cases h;exact⟨rfl,rfl⟩
  ·cases h
 ·cases h
def afJ{x:AV}{y:τ}(h:B7 P N x=γ j)(q:VR R x y)(w:ψ):∃v,(l7 N #[(0,y)]).run P w=.ok v w/\VR R j.val v:=by
 unfold B7 at h;split at h
 ·rename_i i S b k l c G H r I
  split at h
  ·rename_i d T s L
   cases h;obtain⟨z,f,U,n⟩:=afN (y1:=.slice ζ 0 0) (nX r w) rfl;have m:=n (.slice ζ 0 0) rfl;have o:=n (.slice ζ 1 1) rfl;rw[nX r w]at m;rw[nX I w]at o;simp only[FG,azD,aj]at m o;have u:=q;simp only[VR]at u;obtain⟨p,A,rfl,_⟩:=u;refine⟨_,n (.slice p l A) rfl,?_⟩;have M:f=0:=by
    rcases qs f with e|B
    ·exact e
    ·have C:G[0]?=z[0]?:=by rw[m,ay2 (by omega)]
     have Q:H[0]?=z[0]?:=by rw[o,ay2 (by omega)]
     rw[<-Q,<-ac8,<-ac8,s,L]at C;simp at C
   subst M;have g:z.toList.set 0 (.slice ζ 0 0)=.slice ζ 0 0::d:=by rw[<-s,m,JN]
   simp only[VR];refine⟨.slice p l A::d,?_,?_⟩
   ·congr 1
    apply gg;rw[JN];cases D:z.toList with
    |nil=>rw[D]at g;cases g
    |cons a X=>rw[D]at g;simp only[List.set_cons_zero,mE,bv]at g;subst g;rfl
   ·simp only[aB]
    exact⟨q,aB.wU d⟩
  ·cases h
 ·cases h
def Hn{pl:O->χ (O×O)}{z:aX τ}{y:τ}{b:E (O×τ)}(c:y.cells= #[y]):ln pl z ((i,y)::b)=match pl i with
  |none=>ζ
  |some (a,size)=>if 1≠size\/z.size<a+1 then ζ else ln pl (z.setIfInBounds a y) b:=by
 rw[ln];cases pl i with
 |none=>rfl
 |some p=>
  obtain⟨a,size⟩:=p;simp only[c];by_cases h:1≠size\/z.size<a+1
  ·rw[aU h,aU (by simpa using h)]
  ·rw[bI h,bI (by simpa using h)]
   simp
def V5{pl:O->χ (O×O)}{z:aX τ}{i j:O}{y1 y2:τ}{k:aX τ}(h:ln pl z [(i,y1),(j,y2)]=γ k)(c:y1.cells= #[y1])(d:y2.cells= #[y2]):∃a b,a<z.size/\b<z.size/\∀x y:τ,x.cells= #[x]->y.cells= #[y]->ln pl z [(i,x),(j,y)]=γ ((z.setIfInBounds a x).setIfInBounds b y):=by
 rw[Hn c]at h;cases e:pl i with
 |none=>rw[e]at h;cases h
 |some p=>
  obtain⟨l,r⟩:=p;rw[e]at h;simp only at h;split at h
  ·cases h
  ·rename_i m
   rw[Hn d]at h;cases f:pl j with
   |none=>rw[f]at h;cases h
   |some p=>
    obtain⟨n,s⟩:=p;rw[f]at h;simp only at h;split at h
    ·cases h
    ·rename_i g
     rw[ac9]at g;refine⟨l,n,by omega,by omega,λx y o q=>?_⟩;rw[Hn o,e];simp only;rw[bI m,Hn q,f];simp only;rw[bI (by rw[ac9];exact g)];rfl
def afO{i j:O}{y1 y2:τ}{M:aX τ}(a:(l7 N #[(i,y1),(j,y2)]).run P X=.ok (.agg M) X)(m:y1.cells= #[y1])(o:y2.cells= #[y2]):∃(z:aX τ)(c d:O),c<z.size/\d<z.size/\∀x y:τ,x.cells= #[x]->y.cells= #[y]->(l7 N #[(i,x),(j,y)]).run P X=.ok (.agg ((z.setIfInBounds c x).setIfInBounds d y)) X:=by
 unfold l7 at a;rw[f_]at a;cases v:(FU N).run P X with
 |ok l Q=>
  rw[v,g9,f_]at a;cases A:(underlying N).run P Q with
  |ok u L=>
   rw[A,g9]at a;split at a
   ·rename_i b
    rw[f_]at a;cases e:BA P (Array.mapM (λf:Field=>do
     let s<-tR f.type
     pure (f.offset,s)) b) L with
    |ok B R=>
     rw[e,g9]at a;split at a
     ·rename_i g D
      obtain⟨p,q,h,k,G⟩:=V5 (pl:=λx=>B[x]?) D m o;simp only[SD,FG]at a;obtain⟨_,rfl⟩:=a;refine⟨l.cells,p,q,h,k,λx y H I=>?_⟩;unfold l7;rw[f_,v,g9,f_,A,g9];simp only[f_,e,g9];rw[show ln (λx=>B[x]?) l.cells (#[(i,x),(j,y)]:aX (O×τ)).toList=γ ((l.cells.setIfInBounds p x).setIfInBounds q y)from G x y H I];rfl
     ·exact aR a (by simp[stuck])
    |_=>rw[e]at a;cases a
   ·rename_i n r
    rw[f_]at a;cases e:BA P (tR r) L with
    |ok C R=>
     rw[e,g9]at a;split at a
     ·rename_i g D
      obtain⟨p,q,h,k,G⟩:=V5 (pl:=λi=>γ (i*C,C)) D m o;simp only[SD,FG]at a;obtain⟨_,rfl⟩:=a;refine⟨l.cells,p,q,h,k,λx y H I=>?_⟩;unfold l7;rw[f_,v,g9,f_,A,g9];simp only[f_,e,g9];rw[show ln (λi=>γ (i*C,C)) l.cells (#[(i,x),(j,y)]:aX (O×τ)).toList=γ ((l.cells.setIfInBounds p x).setIfInBounds q y)from G x y H I];rfl
     ·exact aR a (by simp[stuck])
    |_=>rw[e]at a;cases a
   ·exact aR a (by simp[stuck])
  |_=>rw[A]at a;cases a
 |_=>rw[v]at a;cases a
def nO(n:O):τ->ξ
 | .slice ζ m _=>Ψ m n
 |_=>η
def zT(x y:AV):E τ->E τ->E AV
 |u::a,v::b=>(bif nO 5 u&&nO 6 v then y else bif nO 3 u&&nO 4 v then x else .v u)::zT x y a b
 |_,_=>[]
def Y6(x y:AV):∀(a b:E τ),a.length=b.length->(zT x y a b).length=a.length
 |[],[],_=>rfl
 |_::c,_::d,h=>by rw[zT,bZ,bZ,Y6 x y c d (by simpa using h)]
def Y5(x y:AV):∀(a b:E τ)(k:O)(u v:τ),a[k]?=γ u->b[k]?=γ v->(zT x y a b)[k]?=γ (bif nO 5 u&&nO 6 v then y else bif nO 3 u&&nO 4 v then x else .v u)
 |[],_,_,_,_,h,_=>by cases h
 |_::_,[],_,_,_,_,h=>by cases h
 |_::d,_::e,0,u,v,h,c=>by simp only[kO,aC]at h c;subst h c;rfl
 |_::d,_::e,k+1,u,v,h,c=>by rw[vq]at h c;rw[zT,vq];exact Y5 x y d e k u v h c
def N4:AV->ξ
 | .own .. | .sl .. =>ε
 |_=>η
def Yk{a:AV}{y:τ}(h:N4 a=ε)(d:VR R a y):y.cells= #[y]:=by
 cases a with
 |sl=>simp only[VR]at d;obtain⟨p,c,rfl,_⟩:=d;rfl
 |own=>simp only[VR]at d;obtain⟨b,_,rfl⟩:=d;rfl
 |_=>cases h
def B8(P:bS)(t:ae)(i j:O)(x y:AV):χ Delta:=
 match N4 x&&N4 y,m_ P (l7 t #[(i,.slice ζ 3 3),(j,.slice ζ 5 5)]),m_ P (l7 t #[(i,.slice ζ 4 4),(j,.slice ζ 6 6)])with
 |true,γ (.agg a),γ (.agg b)=>γ {val:=.agg (zT x y a.toList b.toList)}
 |_,_,_=>ζ
def UJ{i a:O}{x y:AV}(h:B8 P N i a x y=γ j):j.put=[]/\j.new=[]:=by
 unfold B8 at h;split at h
 ·cases h;exact⟨rfl,rfl⟩
 ·cases h
def afK{i b:O}{x y:AV}{o r:τ}(h:B8 P N i b x y=γ j)(Q:VR R x o)(S:VR R y r)(w:ψ):∃v,(l7 N #[(i,o),(b,r)]).run P w=.ok v w/\VR R j.val v:=by
 unfold B8 at h;split at h
 ·rename_i W X C T t
  cases h;rw[aP]at C;obtain⟨z,f,l,D,G,H⟩:=afO (y1:=.slice ζ 3 3) (y2:=.slice ζ 5 5) (nX T w) rfl rfl;have s:=H (.slice ζ 3 3) (.slice ζ 5 5) rfl rfl;have A:=H (.slice ζ 4 4) (.slice ζ 6 6) rfl rfl;rw[nX T w]at s;rw[nX t w]at A;simp only[FG,azD,aj]at s A;refine⟨_,H o r (Yk C.1 Q) (Yk C.2 S),?_⟩;simp only[VR];refine⟨((z.setIfInBounds f o).setIfInBounds l r).toList,rfl,?_⟩;have U:W.toList.length=z.size:=by rw[s];simp
  have s2:X.toList.length=z.size:=by rw[A];simp
  refine aB.of (by rw[Y6 _ _ _ _ (by rw[U,s2]),U];simp) λk a v I B=>?_
  have L:k<z.size:=by have:=(fY.1 B).1;simpa using this
  have g:∀p q:τ,((z.setIfInBounds f p).setIfInBounds l q).toList[k]?=γ (if l=k then q else if f=k then p else z[k]):=λp q=>by
   rw[ac8,RL,RL,ac9];by_cases c:l=k
   ·rw[aU c,aU c,aU G]
   ·rw[bI c,bI c]
    by_cases d:f=k
    ·rw[aU d,aU d,aU D]
    ·rw[bI d,bI d,Array.getElem?_eq_getElem L]
  rw[g]at B;rw[Y5 x y _ _ k _ _ (by rw[s];exact g _ _) (by rw[A];exact g _ _)]at I;simp only[aC]at I B;subst I B;by_cases c:l=k
  ·simp only[aU c];exact S
  ·simp only[bI c]
   by_cases d:f=k
   ·simp only[aU d];exact Q
   ·simp only[bI d]
    have:∀(u:τ)(m n:O),m≠n->(nO m u&&nO n u)=η:=λu m n M=>by
     cases e:nO m u&&nO n u with
     |false=>rfl
     |true=>
      rw[aP]at e;unfold nO at e;split at e
      ·exact aR ((cA e.1).symm.trans (cA e.2)) M
      ·cases e.1
    rw[this _ 5 6 (by decide),this _ 3 4 (by decide),be,be];simp only[VR]
 ·cases h
def Da(P:bS)(t:ae)(x:AV):χ Delta:=
 match P.underlying t,x with
 |some (.slice _),.own _ a=>γ {val:=.v (.int .i64 a)}
 |some (.slice _),.sl _ _ _ _ a _=>γ {val:=.v (.int .i64 a)}
 |_,_=>match x.iH with
  |some v=>j7 P (RQ #[t] 0 #[v])
  |none=>ζ
def UL(P:bS)(b:Builtin)(c:aX ae)(args:E AV)(H:E AB)(base:O):χ Delta:=
 match b with
 | .len=>(match args,c.toList with
  |[x],[t]=>Da P t x
  |_,_=>ζ)
 | .append=>(match args,c.toList with
  |[s,x],[t,e]=>if t=e then(match BY P t s x with
   |some f=>γ f
   |none=>Gj P t H s x base)else ζ
  |_,_=>ζ)
 | .copy=>(match args,c.toList with
  |[d,x],[t,_]=>Me P t H d x
  |_,_=>ζ)
 | .clear=>(match args,c.toList with
  |[x],[t]=>Ma P t H x
  |_,_=>ζ)
 | .max=>(match AV.nf args with
  |some a=>j7 P (Builtin.max_ #[] 0 a.toArray)
  |none=>ζ)
 | .min=>(match AV.nf args with
  |some a=>j7 P (Builtin.min_ #[] 0 a.toArray)
  |none=>ζ)
 | .real=>(match AV.nf args with
  |some a=>j7 P (Builtin.real_ #[] 0 a.toArray)
  |none=>ζ)
 | .imag=>(match AV.nf args with
  |some a=>j7 P (Builtin.imag_ #[] 0 a.toArray)
  |none=>ζ)
 | .complex=>(match AV.nf args with
  |some a=>j7 P (Builtin.complex_ #[] 0 a.toArray)
  |none=>ζ)
 |_=>ζ
def Hr:AV->χ (dm×E AV)
 | .fn g a=>γ (g,a)
 | .v (.func (.func g) ⟨[]⟩ l)=>γ (g,l.toList.map .v)
 |_=>ζ
variable {I:dm}
def M'{a:AV}{y:τ}(h:Hr a=γ (I,G))(b:VR R a y):∃l,y=.func (.func I) #[] (qr l)/\aB R G l:=by
 unfold Hr at h;split at h
 ·cases h
  simpa only[VR]using b
 ·cases h
  simp only[VR]at b;exact⟨_,b,aB.wU _⟩
 ·cases h
def VM(P:bS)(g:dm)(args:E AV):χ Delta:=
 match P.funcs[g]?with
 |some fn=>(match fn.body with
  |none=>(match AV.nf args with
   |some a=>(match m_ P (g_ g a.toArray)with
    |some (.value v)=>γ {val:=.v v}
    |_=>ζ)
   |none=>ζ)
  |some _=>ζ)
 |none=>ζ
def US(P:bS)(Γ:aG)(c:Call)(d:cP->AV)(H:E AB)(base:O):χ Delta:=
 match c.callee with
 | .value f=>(match Hr (d f)with
  |some (g,a)=>(match Γ g with
   |some S=>S (c.args.toList.map d++a) H base
   |none=>VM P g (c.args.toList.map d++a))
  |_=>ζ)
 | .builtin b=>UL P b c.argTypes (c.args.toList.map d) H base
 | .invoke r m=>(match d r with
  | .v (.iface t v)=>(match m_ P (method (P.types.size+Made.depth) t v m)with
   |some (f,x)=>(match Γ f with
    |some S=>S (.v x::c.args.toList.map d) H base
    |none=>ζ)
   |none=>ζ)
  |_=>ζ)
def bytesOf:E (E τ)->χ (E υ)
 |[]=>γ []
 |r::a=>match r,bytesOf a with
  |[.int .u8 z],γ l=>γ (tq z::l)
  |_,_=>ζ
def y0:E (E τ)->E ξ
 |[]=>[]
 |r::a=>match r with
  |[.int .u8 z]=>κ (0<=z)::κ (z<256)::y0 a
  |_=>y0 a
def UQ:∀{a:E (E τ)}{l:E υ},bytesOf a=γ l->aJ (y0 a)=ε->l.length=a.length/\∀j (c:j<a.length)(b:j<l.length),a[j]=[.int .u8 (l[j].toNat:Z)]
 |[],l,h,_=>by simp only[bytesOf,aC]at h;subst h;exact⟨rfl,λj c=>aR c (dh _)⟩
 |r::a,l,h,d=>by
  unfold bytesOf at h;split at h
  ·rename_i z i e
   simp only[aC]at h;subst h;simp only[y0,aJ,gA,id,aP,aL]at d;obtain⟨f,g⟩:=UQ e d.2.2;refine⟨by simp[f],λj c b=>?_⟩;cases j with
   |zero=>simp only[yd,tq,Tz,mE,Value.int.injEq,aj,bv];omega
   |succ j=>simpa using g j (by simpa using c) (by simpa using b)
  ·cases h
def B_(P:bS)(H:E AB)(b dst:ae)(x:AV):χ Delta:=
 match x,P.underlying b,P.underlying dst with
 | .own i a,γ (.slice e),γ .string=>(match P.underlying e,H.getD i .gone with
  |some (.int .u8),.row _ n 1 g _=>(match bytesOf ((dK a).map g)with
   |some l=>γ {val:=.v (.string (vh l)),rd:=[i],aw:=Δ a n::y0 ((dK a).map g)}
   |none=>ζ)
  |_,_=>ζ)
 |_,_,_=>ζ
def UP{s d:ae}{x:AV}(h:B_ P S s d x=γ j):j.put=[]/\j.new=[]:=by
 unfold B_ at h;split at h
 ·split at h
  ·split at h
   ·cases h;exact⟨rfl,rfl⟩
   ·cases h
  ·cases h
 ·cases h
def afQ{s d:ae}{x:AV}{y:τ}(h:B_ P S s d x=γ j)(m:aJ j.aw=ε)(M:∀i∈j.rd,BR R i (S.getD i .gone) X)(z:VR R x y):∃v,(convert s d y).run P X=.ok v X/\VR R j.val v:=by
 unfold B_ at h;split at h
 ·rename_i i c e N Q
  split at h
  ·rename_i rw n g t T U
   split at h
   ·rename_i A o
    simp only[aC]at h;subst h;have p:c<=n/\aJ (y0 ((dK c).map g))=ε:=by simpa[aJ,bl]using m
    obtain⟨B,m⟩:=p;obtain⟨q,r⟩:=UQ o m;have C:=M i (by simp);rw[U]at C;simp only[VR]at z;obtain⟨b,f,rfl⟩:=z;rcases C with⟨_,_,W⟩|⟨b',l,t',fz,D,w,_,hn,H⟩
    ·rw[W]at f;cases f
    ·rw[f]at D
     cases D;refine⟨_,?_,by simp only[VR];rfl⟩;have k:A.length=c:=by simpa using q
     have G:=run_convert_bytes_back (P:=P) X s d e ⟨b.n,b.o,ζ⟩ b.c A N T Q λa hj=>by
      have u:a<c:=by omega
      obtain⟨g1,g2⟩:=H a (by omega);have I:=g2 0 (by omega);have L:=r a (by simpa using u) hj;simp only[J5,List.getElem_range]at L;rw[show(⟨b.n,b.o,ζ⟩:cM).add a=⟨b.n,b.o+a,ζ⟩ by simp[vn],oL w];simp only[rS,im]at I;rw[I,L];rfl
     rw[k]at G;exact G
   ·cases h
  ·cases h
 ·cases h
def fx(P:bS)(Γ:aG)(o:a_)(T:E AV)(H:E AB)(base:O):χ Delta:=
 match o.op with
 | .move x=>γ {val:=bP T x}
 | .assign x=>γ {val:=bP T x}
 | .pick c a b=>(match bP T c with
  | .v (.bool q)=>γ {val:=PS q (bP T a) (bP T b)}
  |_=>ζ)
 | .alloc t=>Gh P t base
 | .box t x=>yZ t (bP T x) base
 | .build t d=>(match Ac (bP T) d.toList with
  |some p=>j7 P (l7 t p.toArray)
  |none=>(match d.toList with
   |[(0,o)]=>B7 P t (bP T o)
   |[(i,o),(j,B)]=>B8 P t i j (bP T o) (bP T B)
   |_=>ζ))
 | .buildSlice t h d=>(match Ac (bP T) d.toList with
  |some p=>Gs P t h p base
  |none=>(match h,d.toList with
   |2,[(0,x),(1,y)]=>Gr P t (bP T x) (bP T y) base
   |_,_=>ζ))
 | .load t a=>wN P H t (bP T a)
 | .store t a x=>QZ P H t (bP T a) (bP T x)
 | .nilCheck x=>(match bP T x with
  | .ptr i w j k=>γ {val:=.ptr i w j k}
  |_=>ζ)
 | .binOp u t x y _=>B4 P u t x y (bP T x) (bP T y)
 | .unOp u _ x=>(match(bP T x).iH with
  |some v=>j7 P (Op.unary u v)
  |none=>ζ)
 | .convert m n x=>(match(bP T x).iH with
  |some v=>j7 P (convert m n v)
  |none=>B_ P H m n (bP T x))
 | .makeInterface t x=>(match(bP T x).iH with
  |some v=>j7 P (Instr.makeInterface t v)
  |none=>ζ)
 | .makeFunc (.func f) first z=>if first.size=0 then γ {val:=.fn f (z.toList.map (bP T))}else ζ
 | .makeSlice t l c=>(match bP T l,bP T c with
  | .v (.int _ l),.v (.int _ c)=>Iw P t l c base
  |_,_=>ζ)
 | .slice t x C D G=>Eu P H t (bP T x) (C.map (bP T)) (D.map (bP T)) (G.map (bP T))
 | .fieldAddr s x f=>(M3 P s (bP T x) f).map λr=>{val:=r}
 | .field s x f=>(M2 P s (bP T x) f).map λr=>{val:=r}
 | .indexAddr t x g=>C6 P H t (bP T x) (bP T g)
 | .index t x g=>(NZ P t (bP T x) (bP T g)).map λr=>{val:=r.1,aw:=r.2}
 | .extract x g=>(match bP T x with
  | .af L=>(L[g]?).map λr=>{val:=r}
  | .v (.tuple A)=>(A.toList[g]?).map λr=>{val:=.v r}
  |_=>ζ)
 | .call c=>US P Γ c (bP T) H base
 |_=>ζ
def E9{P:bS}{o:a_}{a:a8}{w w':ψ}{next:a8->ψ->Prop}{Q:e9->a8->ψ->Prop}{v:τ}(h:(dw a.eval o).run P w=.ok (.value v) w')(b:next (a.put o.dst v) w'):o.wp P a w next Q:=by unfold ot;rw[h];exact b
def ayM{P:bS}{o:a_}{a:a8}{w w':ψ}{next:a8->ψ->Prop}{Q:e9->a8->ψ->Prop}(h:(dw a.eval o).run P w=.ok .skip w')(b:next (a.put o.dst aZ) w'):o.wp P a w next Q:=by unfold ot;rw[h];exact b
def uc{ν:Nu}{a:cP->AV}{σ:cP->τ}:∀{l:E cP},(∀x∈l,VR ν (a x) (σ x))->aB ν (l.map a) (l.map σ)
 |[],_=>by simp only[kQ,aB]
 |x::l,h=>by simp only[eG,aB];exact⟨h x jA,uc λy b=>h y (l8 _ b)⟩
def YI{x:AV}(h:Da P N x=γ j):j.put=[]/\j.new=[]:=by
 unfold Da at h
 repeat(first|exact jJ h|split at h|(simp only[aC]at h;subst h;exact⟨rfl,rfl⟩)|cases h)
def ann{t ty:ae}{x:AV}{y:τ}(h:Da P t x=γ j)(f:VR R x y):∃v,(RQ #[t] ty #[y]).run P X=.ok v X/\VR R j.val v:=by
 unfold Da at h;split at h
 ·rename_i e i d g
  simp only[aC]at h;subst h;simp only[VR]at f;obtain⟨b,_,rfl⟩:=f;exact⟨.int .i64 d,by simp[RQ,fL g,goInt],by simp only[VR]⟩
 ·rename_i e i n a k d l g
  simp only[aC]at h;subst h;simp only[VR]at f;obtain⟨p,c,rfl,_⟩:=f;exact⟨.int .i64 d,by simp[RQ,fL g,goInt],by simp only[VR]⟩
 ·split at h
  ·rename_i v m
   have:=jd m f;subst this;exact mr h R X
  ·cases h
def IT{P:bS}{Γ:aG}(hΓ:aK P Γ){o:a_}{a:a8}{T:E AV}{H:E AB}{base:O}{δ:Delta}{ν:Nu}{w:ψ}{next:a8->ψ->Prop}{Q:e9->a8->ψ->Prop}(h:fx P Γ o T H base=γ δ)(N:aJ δ.aw=ε)(A:∀x∈o.op.operands,VR ν (bP T x) (a.eval x))(hr:∀i∈δ.rd,BR ν i (H.getD i .gone) w)(hlt:∀i b,ν i=γ b->b.n<w.heap.size)(hb:∀j,j<δ.new.length->ν (base+j)=ζ)(hsep:Uf ν H δ)(htab:a4 (BI ν δ w) w)(hn:∀v w' R,ey ν R base δ w w' v->next (a.put o.dst v) w'):o.wp P a w next Q:=by
 have u:∀(s:Sem τ),(∃v,s.run P w=.ok v w/\VR ν δ.val v)->δ.put=[]->δ.new=[]->(dw a.eval o=(do pure (.value (<-s)):Sem Next))->o.wp P a w next Q:=by rintro s ⟨v,U,h2⟩ hp hn' he;refine E9 (v:=v) (w':=w) ?_ (hn v w ν (ey.same h2 hp hn'));rw[he];simp[U]
 have C:∀(s:Sem τ),(∃v w' R,s.run P w=.ok v w'/\ey ν R base δ w w' v)->(dw a.eval o=(do pure (.value (<-s)):Sem Next))->o.wp P a w next Q:=by rintro s ⟨v,w',R,U,h2⟩ he;refine E9 (v:=v) (w':=w') ?_ (hn v w' R h2);rw[he];simp[U]
 obtain⟨dst,op,ty,pos,W,qz⟩:=o;cases op with
 |move x=>simp only[fx,aC]at h;subst h;exact u (pure (a.eval x)) ⟨_,rfl,A x (by simp[eQ])⟩ rfl rfl (by simp[dw])
 |assign x=>simp only[fx,aC]at h;subst h;exact u (pure (a.eval x)) ⟨_,rfl,A x (by simp[eQ])⟩ rfl rfl (by simp[dw])
 |pick c x y=>
  simp only[fx]at h;split at h
  ·rename_i q hq
   simp only[aC]at h;subst h;have hc:=A c (by simp[eQ]);rw[hq]at hc;simp only[VR]at hc;refine E9 (v:=if q then a.eval x else a.eval y) (w':=w) ?_ (hn _ w ν (ey.same (ari (A x (by simp[eQ])) (A y (by simp[eQ]))) rfl rfl));simp[dw,hc,asBool]
  ·cases h
 |alloc t=>
  simp only[fx]at h;have G:ν base=ζ:=by
   have:δ.new.length=1:=by
    unfold Gh yZ at h
    repeat(first|split at h|(simp only[dL]at h;obtain⟨c,_,rfl⟩:=h;rfl)|cases h)
   simpa using hb 0 (by omega)
  exact C _ (afe h G) rfl
 |box t x=>
  simp only[fx]at h;have G:ν base=ζ:=by
   have:δ.new.length=1:=by unfold yZ at h;simp only[dL]at h;obtain⟨c,_,rfl⟩:=h;rfl
   simpa using hb 0 (by omega)
  exact C _ (UF h (A x (by simp[eQ])) G) rfl
 |build t B=>
  simp only[fx]at h;split at h
  ·rename_i ps hps
   have:=PO (ν:=ν) (σ:=a.eval) hps (λp hp=>A p.2 (by simp only[eQ,Bo];exact gh.2 ⟨p,hp,rfl⟩));have e:(B.map λ(i,x)=>(i,a.eval x))=ps.toArray:=by rw[<-this];apply gg;simp
   refine u _ (mr h ν w) (jJ h).1 (jJ h).2 ?_;rw[<-e];rfl
  ·split at h
   ·rename_i o N
    have e:(B.map λ(i,x)=>(i,a.eval x))= #[(0,a.eval o)]:=by apply gg;simp[N]
    have L:VR ν (bP T o) (a.eval o):=A o (by simp only[eQ,Bo];exact gh.2 ⟨(0,o),by rw[N];simp,rfl⟩);refine u _ (afJ h L w) (UI h).1 (UI h).2 ?_;rw[<-e];rfl
   ·rename_i i o j o' N
    have e:(B.map λ(i,x)=>(i,a.eval x))= #[(i,a.eval o),(j,a.eval o')]:=by apply gg;simp[N]
    have L:VR ν (bP T o) (a.eval o):=A o (by simp only[eQ,Bo];exact gh.2 ⟨(i,o),by rw[N];simp,rfl⟩);have hy:VR ν (bP T o') (a.eval o'):=A o' (by simp only[eQ,Bo];exact gh.2 ⟨(j,o'),by rw[N];simp,rfl⟩);refine u _ (afK h L hy w) (UJ h).1 (UJ h).2 ?_;rw[<-e];rfl
   ·cases h
 |buildSlice t len B=>
  simp only[fx]at h;split at h
  ·rename_i ps hps
   have:=PO (ν:=ν) (σ:=a.eval) hps (λp hp=>A p.2 (by simp only[eQ,Bo];exact gh.2 ⟨p,hp,rfl⟩));have e:(B.map λ(i,x)=>(i,a.eval x))=ps.toArray:=by rw[<-this];apply gg;simp
   have G:ν base=ζ:=by
    have:δ.new.length=1:=by
     unfold Gs at h
     repeat(first|split at h|(simp only[aC]at h;subst h;rfl)|cases h)
    simpa using hb 0 (by omega)
   refine C _ (afM h N G) ?_;rw[<-e];rfl
  ·split at h
   ·rename_i x y hxy
    have e:(B.map λ(i,x)=>(i,a.eval x))= #[(0,a.eval x),(1,a.eval y)]:=by apply gg;simp[hxy]
    have L:VR ν (bP T x) (a.eval x):=A x (by simp only[eQ,Bo];exact gh.2 ⟨(0,x),by rw[hxy];simp,rfl⟩);have hy:VR ν (bP T y) (a.eval y):=A y (by simp only[eQ,Bo];exact gh.2 ⟨(1,y),by rw[hxy];simp,rfl⟩);have G:ν base=ζ:=by
     have:δ.new.length=1:=by
      unfold Gr at h
      repeat(first|split at h|(simp only[aC]at h;subst h;rfl)|cases h)
     simpa using hb 0 (by omega)
    refine C _ (afL h L hy G) ?_;rw[<-e];rfl
   ·cases h
 |load t x=>simp only[fx]at h;exact u _ (YX h N (A x (by simp[eQ])) hr) (YW h).1 (YW h).2 rfl
 |store t x y=>simp only[fx]at h;obtain⟨w',U,h2⟩:=auv (base:=base) h N (A x (by simp[eQ])) (A y (by simp[eQ])) hr;refine ayM (w':=w') ?_ (hn _ w' ν h2);simp[dw,U]
 |nilCheck x=>
  simp only[fx]at h;split at h
  ·rename_i i wd j k L
   simp only[aC]at h;subst h;have D:=A x (by simp[eQ]);rw[L]at D;have hv':=D;simp only[VR]at D;obtain⟨b,hb1,hb2⟩:=D;refine E9 (v:=a.eval x) (w':=w) ?_ (hn _ w ν (ey.same hv' rfl rfl));simp[dw,hb2]
  ·cases h
 |binOp op t x y yt=>simp only[fx]at h;exact u _ (afE h N (A x (by simp[eQ])) (A y (by simp[eQ])) w) (UA h).1 (UA h).2 rfl
 |unOp op t x=>
  simp only[fx]at h;split at h
  ·rename_i v D
   have:=jd D (A x (by simp[eQ]));subst this;exact u _ (mr h ν w) (jJ h).1 (jJ h).2 rfl
  ·cases h
 |convert s d x=>
  simp only[fx]at h;split at h
  ·rename_i v D
   have:=jd D (A x (by simp[eQ]));subst this;exact u _ (mr h ν w) (jJ h).1 (jJ h).2 rfl
  ·exact u _ (afQ h N hr (A x (by simp[eQ]))) (UP h).1 (UP h).2 rfl
 |makeInterface s x=>
  simp only[fx]at h;split at h
  ·rename_i v D
   have:=jd D (A x (by simp[eQ]));subst this;exact u _ (mr h ν w) (jJ h).1 (jJ h).2 rfl
  ·cases h
 |makeFunc fn first cap=>
  cases fn with
  |func f'=>
   simp only[fx]at h;split at h
   ·rename_i h0
    simp only[aC]at h;subst h;have hf:first= #[]:=Array.size_eq_zero_iff.1 h0;subst hf;refine u (R0 (.func f') (#[].map a.eval) (cap.map a.eval)) ⟨.func (.func f') #[] (cap.map a.eval),by simp[R0],?_⟩ rfl rfl rfl;simp only[VR];refine⟨cap.toList.map a.eval,?_,uc λx L=>A x (by simp[eQ];simpa using L)⟩
    congr 1
    apply gg;simp
   ·cases h
  |_=>simp only[fx]at h;cases h
 |makeSlice t l c=>
  simp only[fx]at h;split at h
  ·rename_i k1 l' k2 c' hl hc
   have M:=A l (by simp[eQ]);have e2:=A c (by simp[eQ]);rw[hl]at M;rw[hc]at e2;simp only[VR]at M e2;have G:ν base=ζ:=by
    have:δ.new.length=1:=by
     unfold Iw at h
     repeat(first|split at h|(simp only[aC]at h;subst h;rfl)|cases h)
    simpa using hb 0 (by omega)
   refine C _ (anM (kl:=k1) (kc:=k2) h N G) ?_;rw[<-M,<-e2];rfl
  ·cases h
 |slice t x lo hi mx=>
  simp only[fx]at h;have bnd:∀q:χ cP,(∀z,q=γ z->z∈ (Op.slice t x lo hi mx).operands)->vL ν (q.map (bP T)) (q.map a.eval):=by
   intro q hq;cases q with
   |none=>exact .none
   |some z=>exact .some (A z (hq z rfl))
  refine u _ (at6 (w:=w) h N (A x (by simp[eQ])) (bnd lo ?_) (bnd hi ?_) (bnd mx ?_) hr) (aby h).1 (aby h).2 rfl
  all_goals (rintro z rfl;simp[eQ])
 |fieldAddr s x f=>simp only[fx,dL]at h;obtain⟨r,U,rfl⟩:=h;exact u _ (aj3 U (A x (by simp[eQ]))) rfl rfl rfl
 |field s x f=>simp only[fx,dL]at h;obtain⟨r,U,rfl⟩:=h;exact u _ (aj2 U (A x (by simp[eQ]))) rfl rfl rfl
 |indexAddr t x ix=>simp only[fx]at h;exact u _ (alM h N (A x (by simp[eQ])) (A ix (by simp[eQ]))) (XY h).1 (XY h).2 rfl
 |index t x ix=>simp only[fx,dL]at h;obtain⟨⟨r,ob⟩,U,rfl⟩:=h;exact u _ (alL U N (A x (by simp[eQ])) (A ix (by simp[eQ]))) rfl rfl rfl
 |extract x ix=>
  simp only[fx]at h;have L:=A x (by simp[eQ]);split at h
  ·rename_i cs hcs
   simp only[dL]at h;obtain⟨r,U,rfl⟩:=h;rw[hcs]at L;simp only[VR]at L;obtain⟨l,h2,h3⟩:=L;obtain⟨y,hy,hr'⟩:=h3.get U;refine u (RY (a.eval x) ix) ⟨y,?_,hr'⟩ rfl rfl rfl;simp[RY,h2,hy]
  ·rename_i arr hcs
   simp only[dL]at h;obtain⟨r,U,rfl⟩:=h;rw[hcs]at L;simp only[VR]at L;refine u (RY (a.eval x) ix) ⟨r,?_,by simp only[VR]⟩ rfl rfl rfl;have:arr[ix]?=γ r:=by simpa using U
   simp[RY,L,this]
  ·cases h
 |call c=>
  simp only[fx,US]at h;obtain⟨callee,args,X⟩:=c;have n:aB ν (args.toList.map (bP T)) (args.toList.map a.eval):=uc λx L=>A x (by simp[eQ,adf];right;simpa using L)
  cases callee with
  |value f=>
   simp only at h;have hf:=A f (by simp[eQ,adf]);split at h
   ·rename_i g caps hg
    obtain⟨l,h2,h3⟩:=M' hg hf;split at h
    ·rename_i S hS
     obtain⟨s1,s2⟩:=hΓ g S hS;have hc:=s2 _ _ _ _ _ _ _ h N (n.append h3) hr hlt hb hsep htab;unfold ot;have he:(dw a.eval ⟨dst,.call ⟨.value f,args,X⟩,ty,pos,W,qz⟩).run P w=.ok (.enter g (args.toList.map a.eval++l).toArray) w:=by
      have e:(args.map a.eval++l.toArray)=(args.toList.map a.eval++l).toArray:=by apply gg;simp
      rw[<-e];simp[dw,lu,h2,Fb,invoke,s1]
     rw[he];simp only[yi];refine hc.mono ?_;rintro e w' ⟨v,R,rfl,hd⟩;exact hn v w' R hd
    ·unfold VM at h
     split at h
     ·split at h
      ·split at h
       ·rename_i vs I
        split at h
        ·rename_i v D
         cases h;have hvals:=pK I (n.append h3);refine E9 (v:=v) (w':=w) ?_ (hn _ w ν (ey.same (by simp only[VR]) rfl rfl));have e:(args.map a.eval++l.toArray)=vs.toArray:=by rw[<-hvals];apply gg;simp
         have hrun:=nX D w;rw[<-e]at hrun;simp[dw,lu,h2,Fb,invoke,hrun]
        ·cases h
       ·cases h
      ·cases h
     ·cases h
   ·cases h
  |invoke r m=>
   simp only at h;have hrv:=A r (by simp[eQ,adf]);split at h
   ·rename_i t v hr1
    rw[hr1]at hrv;simp only[VR]at hrv;split at h
    ·rename_i f x hm
     split at h
     ·rename_i S hS
      obtain⟨s1,s2⟩:=hΓ f S hS;have L:aB ν (AV.v x::args.toList.map (bP T)) (x::args.toList.map a.eval):=by simp only[aB,VR];exact⟨trivial,n⟩
      have hc:=s2 _ _ _ _ _ _ _ h N L hr hlt hb hsep htab;unfold ot;have he:(dw a.eval ⟨dst,.call ⟨.invoke r m,args,X⟩,ty,pos,W,qz⟩).run P w=.ok (.enter f (x::args.toList.map a.eval).toArray) w:=by
       have hm':=nX hm w;have e:(#[a.eval r]++args.map a.eval).extract 1 (#[a.eval r]++args.map a.eval).size=args.map a.eval:=by apply gg;simp;exact pA (by simp)
       have e2: #[x]++args.map a.eval=(x::args.toList.map a.eval).toArray:=by apply gg;simp
       have e3:(invoke (.fn (.method m) #[]) (#[a.eval r]++args.map a.eval)).run P w=.ok (.enter f (x::args.toList.map a.eval).toArray) w:=by
        have e4:(#[a.eval r]++args.map a.eval)[0]?=γ (a.eval r):=by rw[ac6 (by simp)];rfl
        have e5:invoke (.fn (.method m) #[]) (#[a.eval r]++args.map a.eval)=callMethod (a.eval r) m (args.map a.eval):=by unfold invoke;simp only[e4,e]
        rw[e5,hrv];unfold callMethod;simp[hm',e2,s1]
       simp[dw,lu,e3]
      rw[he];simp only[yi];refine hc.mono ?_;rintro e w' ⟨v,R,rfl,hd⟩;exact hn v w' R hd
     ·cases h
    ·cases h
   ·cases h
  |builtin b=>
   simp only at h;have hb1:∀(s:Sem τ),(dw a.eval ⟨dst,.call ⟨.builtin b,args,X⟩,ty,pos,W,qz⟩=(do pure (.value (<-s)):Sem Next))->(dw a.eval ⟨dst,.call ⟨.builtin b,args,X⟩,ty,pos,W,qz⟩=(do pure (.value (<-s)):Sem Next)):=λ_ h=>h
   cases b<;>simp only[UL]at h<;>first|cases h|skip
   case append=>
    split at h
    ·rename_i s x t t' hA hts
     split at h
     ·rename_i htt
      subst htt;have M:args.map a.eval= #[(args.toList.map a.eval).getD 0 aZ,(args.toList.map a.eval).getD 1 aZ]:=by
       have:=n.length;rw[hA]at this;apply gg;simp only[JM]
       match hL:args.toList.map a.eval,this with
       |[p,q],_=>rfl
      have e2:X= #[t,t]:=by apply gg;simpa using hts
      rw[hA]at n;have D:VR ν s ((args.toList.map a.eval).getD 0 aZ)/\VR ν x ((args.toList.map a.eval).getD 1 aZ):=by
       match hL:args.toList.map a.eval,n with
       |[p,q],hh=>simp only[aB]at hh;exact⟨hh.1,hh.2.1⟩
      split at h
      ·rename_i δ' hE
       simp only[aC]at h;subst h;refine u _ (afk (ty:=ty) hE D.1 D.2 w) (Us hE).1 (Us hE).2 ?_;subst e2;simp only[dw,lu,M];rfl
      ·have G:ν base=ζ:=by
        have:δ.new.length=1:=by
         unfold Gj at h
         repeat(first|split at h|(simp only[aC]at h;subst h;rfl)|cases h)
        simpa using hb 0 (by omega)
       refine C _ (afj (ty:=ty) h N D.1 D.2 G hr hlt) ?_;subst e2;simp only[dw,lu,M];rfl
     ·cases h
    ·cases h
   case copy=>
    split at h
    ·rename_i s x t t' hA hts
     have M:args.map a.eval= #[(args.toList.map a.eval).getD 0 aZ,(args.toList.map a.eval).getD 1 aZ]:=by
      have:=n.length;rw[hA]at this;apply gg;simp only[JM]
      match hL:args.toList.map a.eval,this with
      |[p,q],_=>rfl
     have e2:X= #[t,t']:=by apply gg;simpa using hts
     rw[hA]at n;have D:VR ν s ((args.toList.map a.eval).getD 0 aZ)/\VR ν x ((args.toList.map a.eval).getD 1 aZ):=by
      match hL:args.toList.map a.eval,n with
      |[p,q],hh=>simp only[aB]at hh;exact⟨hh.1,hh.2.1⟩
     obtain⟨v,w',U,h2⟩:=ahv (t':=t') (ty:=ty) (base:=base) h N D.1 D.2 hr (λhs hn L=>aad hs hn L);refine C _ ⟨v,w',ν,U,h2⟩ ?_;subst e2;simp only[dw,lu,M];rfl
    ·cases h
   case clear=>
    split at h
    ·rename_i x t hA hts
     have M:args.map a.eval= #[(args.toList.map a.eval).getD 0 aZ]:=by
      have:=n.length;rw[hA]at this;apply gg;simp only[JM]
      match hL:args.toList.map a.eval,this with
      |[p],_=>rfl
     have e2:X= #[t]:=by apply gg;simpa using hts
     rw[hA]at n;have D:VR ν x ((args.toList.map a.eval).getD 0 aZ):=by
      match hL:args.toList.map a.eval,n with
      |[p],hh=>simp only[aB]at hh;exact hh.1
     obtain⟨v,w',U,h2⟩:=ag7 (ty':=ty) (base:=base) h N D hr;refine C _ ⟨v,w',ν,U,h2⟩ ?_;subst e2;simp only[dw,lu,M];rfl
    ·cases h
   case len=>
    split at h
    ·rename_i x t hA hts
     have M:args.map a.eval= #[(args.toList.map a.eval).getD 0 aZ]:=by
      have:=n.length;rw[hA]at this;apply gg;simp only[JM]
      match hL:args.toList.map a.eval,this with
      |[p],_=>rfl
     have e2:X= #[t]:=by apply gg;simpa using hts
     rw[hA]at n;have D:VR ν x ((args.toList.map a.eval).getD 0 aZ):=by
      match hL:args.toList.map a.eval,n with
      |[p],hh=>simp only[aB]at hh;exact hh.1
     refine u _ (ann (ty:=ty) h D) (YI h).1 (YI h).2 ?_;subst e2;simp only[dw,lu,M];rfl
    ·cases h
   case max=>
    split at h
    ·rename_i vs I
     have:=pK I n;refine u _ (mr h ν w) (jJ h).1 (jJ h).2 ?_;have M:args.map a.eval=vs.toArray:=by apply gg;simpa using this
     simp only[dw,lu,M];rfl
    ·cases h
   case min=>
    split at h
    ·rename_i vs I
     have:=pK I n;refine u _ (mr h ν w) (jJ h).1 (jJ h).2 ?_;have M:args.map a.eval=vs.toArray:=by apply gg;simpa using this
     simp only[dw,lu,M];rfl
    ·cases h
   case real=>
    split at h
    ·rename_i vs I
     have:=pK I n;refine u _ (mr h ν w) (jJ h).1 (jJ h).2 ?_;have M:args.map a.eval=vs.toArray:=by apply gg;simpa using this
     simp only[dw,lu,M];rfl
    ·cases h
   case imag=>
    split at h
    ·rename_i vs I
     have:=pK I n;refine u _ (mr h ν w) (jJ h).1 (jJ h).2 ?_;have M:args.map a.eval=vs.toArray:=by apply gg;simpa using this
     simp only[dw,lu,M];rfl
    ·cases h
   case complex=>
    split at h
    ·rename_i vs I
     have:=pK I n;refine u _ (mr h ν w) (jJ h).1 (jJ h).2 ?_;have M:args.map a.eval=vs.toArray:=by apply gg;simpa using this
     simp only[dw,lu,M];rfl
    ·cases h
 |_=>simp only[fx]at h;cases h
inductive Ex where
 |normal
 |exit (id:O)
 |ret
inductive am where
 |err
 |out (e:Ex) (T:E AV) (H:E AB)
def am.ok(Q:Ex->E AV->E AB->Prop):am->Prop
 | .err=>jy
 | .out e T H=>Q e T H
def Ξ:E ξ->am->am
 |[],r=>r
 |b::a,r=>cond b (Ξ a r) .err
variable {Q:Ex->E AV->E AB->Prop}
def zY{bs:E ξ}{r:am}(h:(Ξ bs r).ok Q):aJ bs=ε/\r.ok Q:=by
 induction bs with
 |nil=>exact⟨rfl,h⟩
 |cons b bs a=>
  cases b
  ·exact h.elim
  ·obtain⟨c,d⟩:=a h
   exact⟨by simpa[aJ]using c,d⟩
structure fb where
 d:χ Delta
 base:O
structure Item where
 o:a_
 e:fb
def ry:E AB->E (O×AB)->E AB
 |H,[]=>H
 |H,p::l=>(ry H l).set p.1 p.2
def i3(H:E AB)(δ:Delta):E AB:=ry H δ.put++δ.new
def my(T:E AV)(dst:χ Tmp)(v:AV):E AV:=match dst with|none=>T|some d=>T.set d v
def lH(T:E AV)(dst:χ Tmp):ξ:=match dst with|none=>ε|some d=>ω d T.length
inductive GR where
 |fail
 |go
 |skip
 |ask (d:O) (b want:ξ)
def p4(all:E a_)(T:E AV):χ (O×ξ)->GR
 |none=>.go
 |some (j,a)=>match(all[j]?).bind (·.dst)with
  |none=>.fail
  |some d=>match T.getD d .dead with
   | .v (.bool b)=>.ask d b a
   | .v (.tuple _)=>.skip
   |_=>.fail
def V2:τ->(τ->am)->am
 | .int k n,f=>f (.int k n)
 | .bool b,f=>f (.bool b)
 | .agg a,f=>f (.agg a)
 | .tuple a,f=>f (.tuple a)
 |x,f=>f x
def aj1(x:τ)(f:τ->am):V2 x f=f x:=by cases x<;>rfl
mutual
def nG:AV->(AV->am)->am
 | .v x,f=>V2 x λx=>f (.v x)
 | .ptr i w j k,f=>f (.ptr i w j k)
 | .sl i w j k l c,f=>f (.sl i w j k l c)
 | .own i l,f=>f (.own i l)
 | .agg b,f=>qQ b λb=>f (.agg b)
 | .af b,f=>qQ b λb=>f (.af b)
 | .fn g b,f=>qQ b λb=>f (.fn g b)
 | .err q,f=>f (.err q)
 | .dead,f=>f .dead
def qQ:E AV->(E AV->am)->am
 |[],f=>f []
 |a::d,f=>nG a λa=>qQ d λd=>f (a::d)
end
mutual
theorem Hk:∀(a:AV)(f:AV->am),nG a f=f a
 | .v x,f=>by simp only[nG,aj1]
 | .ptr ..,f=>by simp only[nG]
 | .sl ..,f=>by simp only[nG]
 | .own ..,f=>by simp only[nG]
 | .agg b,f=>by simp only[nG];exact uv b _
 | .af b,f=>by simp only[nG];exact uv b _
 | .fn g b,f=>by simp only[nG];exact uv b _
 | .err _,f=>by simp only[nG]
 | .dead,f=>by simp only[nG]
theorem uv:∀(c:E AV)(f:E AV->am),qQ c f=f c
 |[],f=>by simp only[qQ]
 |a::c,f=>by simp only[qQ];rw[Hk a,uv c]
end
def wn{α:Type}:E α->(E α->am)->am
 |[],f=>f []
 |a::b,f=>wn b λb=>f (a::b)
def CI{α:Type}:∀(l:E α)(f:E α->am),wn l f=f l
 |[],f=>by simp only[wn]
 |a::b,f=>by simp only[wn];rw[CI b]
def Hl:AB->(AB->am)->am
 | .cells a t,f=>qQ a λa=>f (.cells a t)
 | .row rw n w g t,f=>f (.row rw n w g t)
 | .gone,f=>f .gone
def VZ(b:AB)(f:AB->am):Hl b f=f b:=by cases b<;>simp only[Hl,uv]
def CH:E (O×AB)->(E (O×AB)->am)->am
 |[],f=>f []
 |p::l,f=>Hl p.2 λb=>CH l λl=>f ((p.1,b)::l)
def V1:∀(l:E (O×AB))(f:E (O×AB)->am),CH l f=f l
 |[],f=>by simp only[CH]
 |p::l,f=>by simp only[CH,VZ];rw[V1 l]
def CG:E AB->(E AB->am)->am
 |[],f=>f []
 |b::l,f=>Hl b λb=>CG l λl=>f (b::l)
def V0:∀(l:E AB)(f:E AB->am),CG l f=f l
 |[],f=>by simp only[CG]
 |b::l,f=>by simp only[CG,VZ];rw[V0 l]
def M1(H:E AB)(δ:Delta)(f:E AB->am):am:=
 CH δ.put λa=>CG δ.new λb=>match a,b with
  |[],[]=>f H
  |a,b=>wn (ry H a++b) f
def aj0(H:E AB)(δ:Delta)(f:E AB->am):M1 H δ f=f (i3 H δ):=by
 simp only[M1,V1,V0,i3];split
 ·rename_i a b
  rw[a,b];simp[ry]
 ·rw[CI]
def Hm(T:E AV)(dst:χ Tmp)(v:AV)(H:E AB)(δ:Delta)(f:E AV->E AB->am):am:=
 nG v λv=>wn (my T dst v) λT=>M1 H δ λH=>f T H
def M0(T:E AV)(dst:χ Tmp)(v:AV)(H:E AB)(δ:Delta)(f:E AV->E AB->am):Hm T dst v H δ f=f (my T dst v) (i3 H δ):=by simp only[Hm,Hk,CI,aj0]
def ES(P:bS)(Γ:aG)(o:a_)(T:E AV)(H:E AB)(tr:E fb)(a:E AV->E AB->E fb->am):am:=
 match fx P Γ o T H H.length with
 |none=>.err
 |some b=>Ξ b.aw (cond (lH T o.dst&&b.put.all λp=>(H.getD p.1 .gone).wr) (Hm T o.dst b.val H b λc d=>a c d (⟨γ b,H.length⟩::tr)) .err)
def Et(o:a_)(T:E AV)(H:E AB)(tr:E fb)(a:E AV->E AB->E fb->am):am:=
 cond (lH T o.dst) (a (my T o.dst (.v aZ)) H (⟨ζ,H.length⟩::tr)) .err
def ku(P:bS)(Γ:aG)(all:E a_):E a_->E AV->E AB->E fb->(E AV->E AB->E fb->am)->am
 |[],T,H,c,a=>a T H c
 |o::e,T,H,c,a=>
  match p4 all T o.guard with
  | .fail=>.err
  | .go=>ES P Γ o T H c λT H c=>ku P Γ all e T H c a
  | .skip=>Et o T H c λT H c=>ku P Γ all e T H c a
  | .ask d b f=>
   cond b (cond f (ES P Γ o (T.set d (.v (.bool ε))) H c λT H c=>ku P Γ all e T H c a) (Et o (T.set d (.v (.bool ε))) H c λT H c=>ku P Γ all e T H c a))
    (cond f (Et o (T.set d (.v (.bool η))) H c λT H c=>ku P Γ all e T H c a) (ES P Γ o (T.set d (.v (.bool η))) H c λT H c=>ku P Γ all e T H c a))
def gy(all:E a_)(T:E AV)(g:χ (O×ξ))(x:ξ):Prop:=
 match p4 all T g with
 | .fail=>jy
 | .go=>x=ε
 | .skip=>x=η
 | .ask _ b a=>x=(b==a)
def wj(P:bS)(Γ:aG)(all:E a_)(o:a_)(T:E AV)(H:E AB)(e:fb):Prop:=
 e.base=H.length/\lH T o.dst=ε/\match e.d with
 |some a=>gy all T o.guard ε/\fx P Γ o T H H.length=γ a/\aJ a.aw=ε/\∀p∈a.put,(H.getD p.1 .gone).wr=ε
 |none=>gy all T o.guard η
def sY(o:a_)(e:fb)(T:E AV):E AV:=my T o.dst (match e.d with|some a=>a.val|none=>.v aZ)
def sX(e:fb)(H:E AB):E AB:=match e.d with|some a=>i3 H a|none=>H
def ub(P:bS)(Γ:aG)(all:E a_):E a_->E fb->E AV->E AB->E AV->E AB->Prop
 |[],[],T,H,a,b=>a=T/\b=H
 |o::c,e::d,T,H,a,b=>wj P Γ all o T H e/\ub P Γ all c d (sY o e T) (sX e H) a b
 |_,_,_,_,_,_=>jy
def Jk{x:AV}(h:G.getD i .dead=x)(_:x≠ .dead):G.set i x=G:=by
 apply Sa;intro k;rw[Sh];by_cases b:i=k
 ·subst b
  by_cases a:i<G.length
  ·simp[a]
   simp[J3,a]at h;exact h.symm
  ·simp[a]
 ·simp[b]
def QY{Γ:aG}{all:E a_}{o:a_}{tr:E fb}{a:E AV->E AB->E fb->am}(h:(ES P Γ o G S tr a).ok Q)(g:gy all G o.guard ε):∃e,wj P Γ all o G S e/\(a (sY o e G) (sX e S) (e::tr)).ok Q:=by
 unfold ES at h;simp only[M0]at h;split at h
 ·exact h.elim
 ·rename_i f d
  obtain⟨i,c⟩:=zY h;cases b:(lH G o.dst&&f.put.all λp=>(S.getD p.1 .gone).wr)with
  |false=>rw[b]at c;exact c.elim
  |true=>rw[b]at c;rw[aP]at b;exact⟨⟨γ f,S.length⟩,⟨rfl,b.1,g,d,i,λp j=>bT.1 b.2 p j⟩,c⟩
def QG{Γ:aG}{all:E a_}{o:a_}{tr:E fb}{a:E AV->E AB->E fb->am}(h:(Et o G S tr a).ok Q)(c:gy all G o.guard η):∃e,wj P Γ all o G S e/\(a (sY o e G) (sX e S) (e::tr)).ok Q:=by
 unfold Et at h;cases b:lH G o.dst with
 |false=>rw[b]at h;exact h.elim
 |true=>rw[b]at h;exact⟨⟨ζ,S.length⟩,⟨rfl,b,c⟩,h⟩
def zd{P:bS}{Γ:aG}{all:E a_}{Q:Ex->E AV->E AB->Prop}:∀{ops:E a_}{T:E AV}{H:E AB}{tr:E fb}{a:E AV->E AB->E fb->am},(ku P Γ all ops T H tr a).ok Q->∃g T' H',ub P Γ all ops g T H T' H'/\(a T' H' (g.reverse++tr)).ok Q
 |[],T,H,tr,a,h=>⟨[],T,H,⟨rfl,rfl⟩,h⟩
 |o::f,T,H,tr,a,h=>by
  have j:(∃e,wj P Γ all o T H e/\(ku P Γ all f (sY o e T) (sX e H) (e::tr) a).ok Q)->∃g T' H',ub P Γ all (o::f) g T H T' H'/\(a T' H' (g.reverse++tr)).ok Q:=by rintro⟨e,k,l⟩;obtain⟨g,T',H',m,n⟩:=zd l;exact⟨e::g,T',H',⟨k,m⟩,by simpa using n⟩
  apply j;unfold ku at h;cases c:p4 all T o.guard with
  |fail=>rw[c]at h;exact h.elim
  |go=>rw[c]at h;exact QY h (by simp[gy,c])
  |skip=>rw[c]at h;exact QG h (by simp[gy,c])
  |ask d b i=>
   rw[c]at h;have p:T.getD d .dead=.v (.bool b):=by
    unfold p4 at c;split at c
    ·cases c
    ·split at c
     ·cases c
     ·split at c
      ·rename_i q;cases c;exact q
      ·cases c
      ·cases c
   have r:T.set d (.v (.bool b))=T:=Jk p (by simp);cases b<;>cases i<;>simp only[a6,be,r]at h
   ·exact QY h (by simp[gy,c])
   ·exact QG h (by simp[gy,c])
   ·exact QG h (by simp[gy,c])
   ·exact QY h (by simp[gy,c])
def AX(x:Item):AV:=match x.e.d with|some a=>a.val|none=>.v aZ
def gR(S:O->ξ):O->E Item->(O->AV)->O->AV
 |_,[],T=>T
 |k,x::l,T=>gR S (k+1) l (if S k=ε then λt=>if x.o.dst=γ t then AX x else T t else T)
def rm(x:Item)(H:O->AB):O->AB:=match x.e.d with|some a=>kp x.e.base a H|none=>H
def ff(S:O->ξ):O->E Item->(O->AB)->O->AB
 |_,[],H=>H
 |k,x::l,H=>ff S (k+1) l (if S k=ε then rm x H else H)
def sK(x:Item)(i:O):Prop:=match x.e.d with|some a=>x.e.base<=i/\i<x.e.base+a.new.length|none=>jy
def kf(x:Item)(i:O):Prop:=match x.e.d with|some a=>(x.e.base<=i/\i<x.e.base+a.new.length)\/(eW i a.put).isSome=ε|none=>jy
def z6{x:Item}{H:O->AB}(h:¬kf x i):rm x H i=H i:=by
 unfold rm;unfold kf at h;cases c:x.e.d with
 |none=>rfl
 |some d=>
  rw[c]at h;simp only[kp];have a:=vH.1 h;rw[bI a.1];cases e:eW i d.put with
  |none=>rfl
  |some b=>rw[e]at a;simp at a
def Zj{x:Item}{H H':O->AB}(h:kf x i):rm x H i=rm x H' i:=by
 unfold rm;unfold kf at h;cases a:x.e.d with
 |none=>rw[a]at h;exact h.elim
 |some d=>
  rw[a]at h;simp only[kp];rcases h with h|h
  ·rw[aU h,aU h]
  ·obtain⟨b,c⟩:=tG.1 h
   rw[c];simp
def ux{S b:O->ξ}{t:O}:∀{l:E Item}{k:O}{T T':O->AV},T t=T' t->(∀(j:O) x,l[j]?=γ x->x.o.dst=γ t->S (k+j)=b (k+j))->gR S k l T t=gR b k l T' t
 |[],_,_,_,h,_=>h
 |x::l,k,T,T',h,c=>by
  simp only[gR];refine ux ?_ λj y e a=>?_
  ·have d:=c 0 x rfl
   simp only[im]at d;by_cases a:x.o.dst=γ t
   ·rw[d a]
    split
    ·simp[a]
    ·exact h
   ·split<;>split<;>simp[a,h]
  ·have:=c (j+1) y (by simpa using e) a
   rwa [show k+1+j=k+(j+1) by omega]
def zq{S b:O->ξ}{i:O}:∀{l:E Item}{k:O}{H H':O->AB},H i=H' i->(∀(j:O) x,l[j]?=γ x->kf x i->S (k+j)=b (k+j))->ff S k l H i=ff b k l H' i
 |[],_,_,_,h,_=>h
 |x::l,k,H,H',h,c=>by
  simp only[ff];refine zq ?_ λj y e a=>?_
  ·have d:=c 0 x rfl
   simp only[im]at d;by_cases a:kf x i
   ·rw[d a]
    split
    ·exact Zj a
    ·exact h
   ·split<;>split<;>simp[z6 a,h]
  ·have:=c (j+1) y (by simpa using e) a
   rwa [show k+1+j=k+(j+1) by omega]
def eR(S:O->ξ)(i:O):O->ξ:=λj=>S j||j==i
def Wd{S:O->ξ}{t:O}:∀{l:E Item}{k i:O}{x:Item}{T:O->AV},l[i]?=γ x->S (k+i)=η->(x.o.dst=γ t->∀(j:O) y,i<j->l[j]?=γ y->y.o.dst=γ t->S (k+j)=η)->gR (eR S (k+i)) k l T t=if x.o.dst=γ t then AX x else gR S k l T t
 |[],_,_,_,_,h,_,_=>by simp at h
 |y::l,k,0,x,T,h,f,g=>by
  simp only[kO,aC]at h;subst h;simp only[gR,im]at f⊢;have e:eR S k k=ε:=by simp[eR]
  rw[aU e,bI (show ¬S k=ε by rw[f];simp)];by_cases b:y.o.dst=γ t
  ·rw[aU b]
   have:∀{l:E Item}{d:O}{T:O->AV},(∀(j:O) z,l[j]?=γ z->z.o.dst=γ t->eR S k (d+j)=η)->gR (eR S k) d l T t=T t:=by
    intro l;induction l with
    |nil=>intro d T _;rfl
    |cons z l n=>
     intro d T c;simp only[gR];rw[n λj q o m=>by have:=c (j+1) q (by simpa using o) m;rwa [show d+1+j=d+(j+1) by omega]];by_cases a:z.o.dst=γ t
     ·have:=c 0 z rfl a
      simp only[im]at this;rw[this,bI (by simp)]
     ·split<;>simp[a]
   rw[this]
   ·simp[b]
   ·intro j z c a
    have:=g b (j+1) z (by omega) (by simpa using c) a;simp only[eR,ay6];rw[show k+1+j=k+(j+1) by omega];exact⟨this,by simp⟩
  ·rw[bI b]
   refine ux (by simp[b]) λj z c a=>?_
   simp[eR];omega
 |y::l,k,i+1,x,T,h,f,g=>by
  simp only[gR];have e:eR S (k+(i+1)) k=S k:=by simp[eR]
  rw[e,show k+(i+1)=(k+1)+i by omega];exact Wd (by simpa using h) (by rwa [show k+1+i=k+(i+1) by omega]) λb j z p c a=>by
   have:=g b (j+1) z (by omega) (by simpa using c) a
   rwa [show k+1+j=k+(j+1) by omega]
def Wb{S:O->ξ}{b:O}:∀{l:E Item}{k i:O}{x:Item}{H:O->AB},l[i]?=γ x->S (k+i)=η->(kf x b->∀(j:O) y,i<j->l[j]?=γ y->kf y b->S (k+j)=η)->ff (eR S (k+i)) k l H b=rm x (ff S k l H) b
 |[],_,_,_,_,h,_,_=>by simp at h
 |y::l,k,0,x,H,h,g,m=>by
  simp only[kO,aC]at h;subst h;simp only[ff,im]at g⊢;have e:eR S k k=ε:=by simp[eR]
  rw[aU e,bI (show ¬S k=ε by rw[g];simp)];by_cases d:kf y b
  ·have:∀{l:E Item}{f:O}{H:O->AB},(∀(j:O) z,l[j]?=γ z->kf z b->eR S k (f+j)=η)->ff (eR S k) f l H b=H b:=by
    intro l;induction l with
    |nil=>intro f H _;rfl
    |cons z l o=>
     intro f H c;simp only[ff];rw[o λj q p n=>by have:=c (j+1) q (by simpa using p) n;rwa [show f+1+j=f+(j+1) by omega]];by_cases a:kf z b
     ·have:=c 0 z rfl a
      simp only[im]at this;rw[this,bI (by simp)]
     ·split<;>simp[z6 a]
   rw[this]
   ·exact Zj d
   ·intro j z c a
    have:=m d (j+1) z (by omega) (by simpa using c) a;simp only[eR,ay6];rw[show k+1+j=k+(j+1) by omega];exact⟨this,by simp⟩
  ·rw[z6 d]
   refine zq (z6 d) λj z c a=>?_
   simp[eR];omega
 |y::l,k,i+1,x,H,h,g,m=>by
  simp only[ff];have e:eR S (k+(i+1)) k=S k:=by simp[eR]
  rw[e,show k+(i+1)=(k+1)+i by omega];exact Wb (by simpa using h) (by rwa [show k+1+i=k+(i+1) by omega]) λd j z r c a=>by
   have:=m d (j+1) z (by omega) (by simpa using c) a
   rwa [show k+1+j=k+(j+1) by omega]
def items(ops:E a_)(a:E fb):E Item:=List.zipWith Item.mk ops a
def abv{dst:χ Tmp}{v:AV}(h:lH G dst=ε)(t:O):(my G dst v).getD t .dead=if dst=γ t then v else G.getD t .dead:=by
 cases dst with
 |none=>simp[my]
 |some d=>
  have a:d<G.length:=by simpa[lH,bM]using h
  simp only[my,cX,Sh,aC];by_cases e:d=t
  ·subst e;simp[a]
  ·simp[e]
def QC(T:E AV)(dst:χ Tmp)(v:AV):(my T dst v).length=T.length:=by cases dst<;>simp[my]
def ta(H:E AB):∀l:E (O×AB),(ry H l).length=H.length
 |[]=>rfl
 |p::l=>by simp[ry,ta H l]
def aaD(H:E AB)(i:O):∀l:E (O×AB),(∀p∈l,p.1<H.length)->(ry H l).getD i .gone=(eW i l).getD (H.getD i .gone)
 |[],_=>rfl
 |p::l,h=>by
  have a:p.1<(ry H l).length:=by rw[ta];exact h p jA
  simp only[ry,eW,cX,Sh];by_cases e:p.1=i
  ·rw[aU e,aU a,aU e];rfl
  ·rw[bI e,bI e]
   have:=aaD H i l λq b=>h q (l8 _ b)
   simpa[cX]using this
def ayN(h:(S.getD i .gone).wr=ε):i<S.length:=by
 rcases om i S.length with a|a
 ·exact a
 ·rw[cX,nk a]at h
  cases h
def Gi(d:∀p∈j.put,(S.getD p.1 .gone).wr=ε)(i:O):(i3 S j).getD i .gone=kp S.length j (λi=>S.getD i .gone) i:=by
 have a:∀p∈j.put,p.1<S.length:=λp h=>ayN (d p h)
 unfold i3 kp;rw[cX];by_cases c:i<S.length
 ·rw[kN (by rw[ta];exact c),gc,<-cX]
  exact aaD S i _ a
 ·rw[oi (by rw[ta];omega),ta]
  by_cases e:i<S.length+j.new.length
  ·rw[aU ⟨by omega,e⟩,cX]
  ·rw[gc,nk (by omega)]
   have:eW i j.put=ζ:=by
    cases f:eW i j.put with
    |none=>rfl
    |some b=>have:=a _ (rb f);simp at this;omega
   rw[this];simp[nk (ad8 c)]
def Nb{S:O->ξ}:∀{l:E Item}{k:O}{T:O->AV},gR S (k+1) l T=gR (λj=>S (j+1)) k l T
 |[],_,_=>rfl
 |x::l,k,T=>by simp only[gR];exact Nb
def Na{S:O->ξ}:∀{l:E Item}{k:O}{H:O->AB},ff S (k+1) l H=ff (λj=>S (j+1)) k l H
 |[],_,_=>rfl
 |x::l,k,H=>by simp only[ff];exact Na
def At(P:bS)(Γ:aG)(all:E a_)(n:O)(d:O->AV)(e:O->AB)(L:E Item)(i:O)(x:Item):Prop:=
 ∃a c,wj P Γ all x.o a c x.e/\a.length=n/\(∀t,a.getD t .dead=gR (λj=>κ (j<i)) 0 L d t)/\∀b,c.getD b .gone=ff (λj=>κ (j<i)) 0 L e b
structure yP (P:bS) (Γ:aG) (all ops:E a_) (es:E fb) (T:E AV) (H:E AB) (T':E AV) (H':E AB):Prop where
 len:es.length<=ops.length
 Db:T'.length=T.length
 zN:H.length<=H'.length
 at_:∀(i:O) x,(items ops es)[i]?=γ x->At P Γ all T.length (λt=>T.getD t .dead) (λb=>H.getD b .gone) (items ops es) i x
 wi:∀t,T'.getD t .dead=gR (λ_=>ε) 0 (items ops es) (λt=>T.getD t .dead) t
 Cq:∀b,H'.getD b .gone=ff (λ_=>ε) 0 (items ops es) (λb=>H.getD b .gone) b
 base:∀(i:O) x,(items ops es)[i]?=γ x->H.length<=x.e.base
 apart:∀(i j:O) x y,i<j->(items ops es)[i]?=γ x->(items ops es)[j]?=γ y->∀b,sK x b->b<y.e.base
 lt:∀(i:O) x,(items ops es)[i]?=γ x->∀b,sK x b->b<H'.length
def aoe{Γ:aG}{all:E a_}{o:a_}{e:fb}(h:wj P Γ all o G S e):(λt=>(sY o e G).getD t .dead)=λt=>if o.dst=γ t then AX ⟨o,e⟩else G.getD t .dead:=by
 funext t
 unfold sY;rw[abv h.2.1];cases a:e.d<;>simp[AX,a]
def aoc{Γ:aG}{all:E a_}{o:a_}{e:fb}(h:wj P Γ all o G S e):(λb=>(sX e S).getD b .gone)=rm ⟨o,e⟩ λb=>S.getD b .gone:=by
 funext b
 obtain⟨c,f,a⟩:=h;unfold sX rm;cases d:e.d with
 |none=>simp
 |some g=>rw[d]at a;simp only[c];exact Gi a.2.2.2 b
def aod(e:fb)(H:E AB):(sX e H).length=H.length+(match e.d with|some δ=>δ.new.length|none=>0):=by unfold sX;cases e.d<;>simp[i3,ta]
def Aw{P:bS}{Γ:aG}{all:E a_}:∀{ops:E a_}{a:E fb}{T:E AV}{H:E AB}{T':E AV}{H':E AB},ub P Γ all ops a T H T' H'->a.length=ops.length
 |[],[],T,H,T',H',h=>rfl
 |o::b,e::a,T,H,T',H',h=>by simp[Aw h.2]
 |[],_::_,T,H,T',H',h=>h.elim
 |_::_,[],T,H,T',H',h=>h.elim
def xo{P:bS}{Γ:aG}{all:E a_}:∀{ops:E a_}{f:E fb}{T:E AV}{H:E AB}{T':E AV}{H':E AB},ub P Γ all ops f T H T' H'->yP P Γ all ops f T H T' H'
 |[],[],T,H,T',H',h=>by obtain⟨rfl,rfl⟩:=h;exact⟨aQ _,rfl,aQ _,by intro i x h;simp[items]at h,λ_=>rfl,λ_=>rfl,by intro i x h;simp[items]at h,by intro i j x y _ h;simp[items]at h,by intro i x h;simp[items]at h⟩
 |o::v,e::f,T,H,T',H',h=>by
  obtain⟨n,C⟩:=h;have r:=xo C;have D:e.base=H.length:=n.1;have w:=aod e H;have hit:items (o::v) (e::f)=⟨o,e⟩::items v f:=rfl;have z:=aoe n;have A:=aoc n;have g:=r.Db;rw[show(sY o e T).length=T.length by unfold sY;rw[QC]]at g;have p:=r.zN;rw[w]at p;have d:∀b,sK ⟨o,e⟩ b->b<(sX e H).length:=by
   intro b c;unfold sK at c;rw[w];cases B:e.d with
   |none=>simp[B]at c
   |some S=>simp[B]at c⊢;omega
  refine⟨by simpa using r.len,g,by omega,?_,?_,?_,?_,?_,?_⟩
  ·intro i x a
   rw[hit]at a⊢;cases i with
   |zero=>
    simp only[kO,aC]at a;subst a;have q:∀(l:E Item)(k:O)(T:O->AV),gR (λj=>κ (j<0)) k l T=T:=by
     intro l;induction l with
     |nil=>intro k T;rfl
     |cons y l s=>intro k T;simp only[gR];rw[s];simp
    have m:∀(l:E Item)(k:O)(H:O->AB),ff (λj=>κ (j<0)) k l H=H:=by
     intro l;induction l with
     |nil=>intro k T;rfl
     |cons y l s=>intro k T;simp only[ff];rw[s];simp
    exact⟨T,H,n,rfl,λt=>by rw[q],λb=>by rw[m]⟩
   |succ i=>
    simp only[vq]at a;obtain⟨G,I,L,M,N,Q⟩:=r.at_ i x a;refine⟨G,I,L,?_,?_,?_⟩
    ·rw[M];unfold sY;rw[QC]
    ·intro t
     rw[N t,z];simp only[gR];rw[Nb];simp
    ·intro b
     rw[Q b,A];simp only[ff];rw[Na];simp
  ·intro t
   rw[hit,r.wi t,z];simp only[gR];rw[Nb];simp
  ·intro b
   rw[hit,r.Cq b,A];simp only[ff];rw[Na];simp
  ·intro i x a
   rw[hit]at a;cases i with
   |zero=>simp only[kO,aC]at a;subst a;simp[D]
   |succ i=>have:=r.base i x (by simpa using a);omega
  ·intro i j x y R a u b c
   rw[hit]at a u;cases j with
   |zero=>omega
   |succ j=>
    cases i with
    |zero=>simp only[kO,aC]at a;subst a;have:=r.base j y (by simpa using u);have:=d b c;omega
    |succ i=>exact r.apart i j x y (by omega) (by simpa using a) (by simpa using u) b c
  ·intro i x a b c
   rw[hit]at a;cases i with
   |zero=>simp only[kO,aC]at a;subst a;have:=d b c;have:=r.zN;omega
   |succ i=>exact r.lt i x (by simpa using a) b c
 |[],_::_,_,_,_,_,h=>h.elim
 |_::_,[],_,_,_,_,h=>h.elim
structure rZ (M:O->Prop) (w0:ψ) (ν0:Nu) (n n0:O) (T0:O->AV) (H0:O->AB) (L:E Item) (S:O->ξ) (a:a8) (w:ψ) (ν:Nu):Prop where
 tmps:∀t,VR ν (gR S 0 L T0 t) (a.tmps.getD t aZ)
 heap:RH M ν (ff S 0 L H0) w
 fr:Fr M w0 w
 cg:∀i b,ν i=γ b->i<n0\/∃j x,L[j]?=γ x/\S j=ε/\sK x i
 len:n<=a.tmps.size
 le:Le ν0 ν
def rz(x:Item)(b:O):Prop:=match x.e.d with|some a=>b∈a.rd\/∃p∈a.put,p.1=b|none=>jy
def AZ{all:E a_}{o:a_}{a:a8}(h:gy all G o.guard q)(m:∀t,t∈o.looksAt all.toArray->VR R (G.getD t .dead) (a.tmps.getD t aZ)):ow o (yielded all.toArray a.tmps)=q:=by
 unfold gy at h;cases f:o.guard with
 |none=>rw[f]at h;simp[p4]at h;simp[ow,f,h]
 |some n=>
  obtain⟨j,g⟩:=n;rw[f]at h;simp only[p4]at h;cases e:(all[j]?).bind (·.dst)with
  |none=>rw[e]at h;exact h.elim
  |some d=>
   have i:(all.toArray[j]?).bind (·.dst)=γ d:=by simpa using e
   have c:=m d (by simp only[Oper.looksAt,f,i];simp);simp only[ow,f,yielded,i,Kf];cases k:G.getD d .dead with
   |v x=>
    rw[k]at c;simp only[VR]at c;cases x with
    |bool b=>
     simp only[e,k]at h;have p:a.tmps[d]?=γ (.bool b):=by
      simp only[rN]at c;cases l:a.tmps[d]?with
      |none=>rw[l]at c;simp[aZ]at c
      |some z=>rw[l]at c;simpa using c
     rw[p,h];cases b<;>cases g<;>rfl
    |tuple r=>
     simp only[e,k]at h;rw[h];cases l:a.tmps[d]?with
     |none=>simp
     |some z=>
      have:z=.tuple r:=by simpa[rN,l]using c
      rw[this];simp
    |_=>simp only[e,k]at h
   |_=>simp only[e,k]at h
def xi{a:a8}{dst:χ Tmp}{v:τ}(h:∀d,dst=γ d->d<a.tmps.size)(t:O):(a.put dst v).tmps.getD t aZ=if dst=γ t then v else a.tmps.getD t aZ:=by
 cases dst with
 |none=>simp[jx]
 |some d=>
  have b:=h d rfl;simp only[jx,aC,rN,RL];by_cases e:d=t
  ·subst e;simp[b]
  ·simp[e]
def kG(a:a8)(dst:χ Tmp)(v:τ):(a.put dst v).defers=a.defers:=by cases dst<;>rfl
def Eh(a:a8)(dst:χ Tmp)(v:τ):(a.put dst v).tmps.size=a.tmps.size:=by cases dst<;>simp[jx]
def lK{T:E AV}{a:a8}{ν:Nu}{z:cP}(h:∀t,z=.tmp t->VR ν (T.getD t .dead) (a.tmps.getD t aZ)):VR ν (bP T z) (a.eval z):=by
 cases z with
 |tmp t=>exact h t rfl
 |const v=>simp[bP,VR,RG]
 |global g=>simp[bP,VR,RG]
 |func f=>simp only[bP,VR,RG];exact⟨[],rfl,by simp only[aB]⟩
variable {C:e9->a8->ψ->Prop}
def QX{Γ:aG}(hΓ:aK P Γ){all:E a_}{u:E fb}(hM:∀k,X.heap.size<=k->B k){T':E AV}{H':E AB}(r:yP P Γ all all u G S T' H'){g:O->ξ}{a:a8}{w:ψ}{ν:Nu}{x:Item}{f:a8->ψ->Prop}(I:(items all u)[i]?=γ x)(l:rZ B X R G.length S.length (λt=>G.getD t .dead) (λb=>S.getD b .gone) (items all u) g a w ν)(h0:g i=η)(hT:∀t,t∈x.o.looksAt all.toArray->gR g 0 (items all u) (λt=>G.getD t .dead) t=gR (λj=>κ (j<i)) 0 (items all u) (λt=>G.getD t .dead) t)(hH:∀b,rz x b->ff g 0 (items all u) (λb=>S.getD b .gone) b=ff (λj=>κ (j<i)) 0 (items all u) (λb=>S.getD b .gone) b)(hwT:∀t,x.o.dst=γ t->∀(j:O) y,i<j->(items all u)[j]?=γ y->y.o.dst=γ t->g j=η)(hwH:∀b,kf x b->∀(j:O) y,i<j->(items all u)[j]?=γ y->kf y b->g j=η)(hK:∀a' w' T,rZ B X R G.length S.length (λt=>G.getD t .dead) (λb=>S.getD b .gone) (items all u) (eR g i) a' w' T->a'.defers=a.defers->f a' w'):l_ P all.toArray C i f a w:=by
 obtain⟨Ti,Hi,⟨e1,e2,e3⟩,lT,gT,gH⟩:=r.at_ i x I;have hxo:all[i]?=γ x.o:=by
  simp only[items,Fp]at I;split at I
  ·rename_i o e A U
   cases I;exact A
  ·cases I
 have vT:∀t,t∈x.o.looksAt all.toArray->VR ν (Ti.getD t .dead) (a.tmps.getD t aZ):=λt ht=>by rw[gT t,<-hT t ht];exact l.tmps t
 have M:∀d,x.o.dst=γ d->d<a.tmps.size:=by
  intro d s;have A:d<Ti.length:=by simpa[lH,s,bM]using e2
  rw[lT]at A;exact eN A l.len
 have m:=λt=>Wd (S:=g) (k:=0) (i:=i) (T:=λt=>G.getD t .dead) (t:=t) I (by simpa using h0) (λs j y hj hy hdy=>by have:=hwT t s j y hj hy hdy;simpa using this)
 have n:=λb=>Wb (S:=g) (k:=0) (i:=i) (H:=λb=>S.getD b .gone) (b:=b) I (by simpa using h0) (λs j y hj hy hdy=>by have:=hwH b s j y hj hy hdy;simpa using this)
 simp only[bH]at m n;unfold l_;simp only[vr,hxo];cases s:x.e.d with
 |none=>
  rw[s]at e3;rw[AZ e3 vT];simp only[tz,tQ];refine hK _ w ν ⟨?_,?_,l.fr,?_,by rw[Eh];exact l.len,l.le⟩ (kG _ _ _)
  ·intro t
   rw[m t,xi M];split
   ·simp[AX,s,VR]
   ·exact l.tmps t
  ·have:ff (eR g i) 0 (items all u) (λb=>S.getD b .gone)=ff g 0 (items all u) (λb=>S.getD b .gone):=by
    funext b
    rw[n b,z6];simp[kf,s]
   rw[this];exact l.heap
  ·intro k b W
   rcases l.cg k b W with h|⟨j,y,A,U,Q⟩
   ·exact .inl h
   ·exact .inr ⟨j,y,A,by simp[eR,U],Q⟩
 |some δ=>
  rw[s]at e3;obtain⟨e3,e4,e5,e6⟩:=e3;rw[AZ e3 vT];simp only[qA];refine .inl ?_;have rd:∀b,rz x b->Hi.getD b .gone=ff g 0 (items all u) (λb=>S.getD b .gone) b:=λb hb=>by rw[gH b,hH b hb]
  have L:∀j,j<δ.new.length->ν (Hi.length+j)=ζ:=by
   intro j hj;cases H:ν (Hi.length+j)with
   |none=>rfl
   |some b=>
    have hnew:sK x (Hi.length+j):=by simp only[sK,s];omega
    rcases l.cg _ b H with h|⟨q,y,A,U,Q⟩
    ·have:=r.base i x I
     omega
    ·rcases vw q i with hq|hq|hq
     ·have:=r.apart q i y x hq A I _ Q
      omega
     ·subst hq;rw[h0]at U;cases U
     ·have:=r.apart i q x y hq I A _ hnew
      unfold sK at Q;split at Q
      ·omega
      ·exact Q.elim
  have N:∀p∈δ.put,(ff g 0 (items all u) (λb=>S.getD b .gone) p.1).wr=ε:=by intro p hp;rw[<-rd p.1 (by simp only[rz,s];exact .inr ⟨p,hp,rfl⟩)];exact e6 p hp
  refine IT hΓ e4 e5 (λz hz=>lK λt ht=>vT t ?_) (λb hb=>?_) (λb k W=>l.heap.lt b k W) L (λi' c j' b b' hp hj hne hl A U=>l.heap.sep i' j' b b' hne (by rw[<-rd i' (by simp only[rz,s];exact .inr ⟨_,hp,rfl⟩)];exact e6 _ hp) (by rw[<-rd j' (by simp only[rz,s];exact .inl hj)];exact hl) A U) (l.heap.Gt (λk W=>hM k (cF l.fr.size W)) N) λv w' T D=>?_
  ·subst ht
   simp only[Oper.looksAt,nm];left;rw[List.mem_filterMap];exact⟨_,by simpa using hz,rfl⟩
  ·rw[rd b (by simp only[rz,s];exact .inl hb)]
   exact l.heap.br b
  ·refine hK _ w' T ⟨?_,?_,D.fr l.heap N l.fr,?_,by rw[Eh];exact l.len,l.le.trans D.le⟩ (kG _ _ _)
   ·intro t
    rw[m t,xi M];split
    ·simp only[AX,s]
     exact D.val
    ·exact(l.tmps t).le D.le
   ·have:ff (eR g i) 0 (items all u) (λb=>S.getD b .gone)=kp Hi.length δ (ff g 0 (items all u) (λb=>S.getD b .gone)):=by
     funext b
     rw[n b];simp[rm,s,e1]
    rw[this];exact l.heap.step (λk W=>hM k (cF l.fr.size W)) D N L
   ·intro k b W
    cases H:ν k with
    |some b'=>
     rcases l.cg k b' H with h|⟨j,y,A,U,Q⟩
     ·exact .inl h
     ·exact .inr ⟨j,y,A,by simp[eR,U],Q⟩
    |none=>have:=D.cg k H (by rw[W];simp);exact .inr ⟨i,x,I,by simp[eR],by simp only[sK,s,e1];exact this⟩
structure SR (M:O->Prop) (w0:ψ) (ν0:Nu) (T:E AV) (H:E AB) (a:a8) (w:ψ) (ν:Nu):Prop where
 tmps:∀t,VR ν (T.getD t .dead) (a.tmps.getD t aZ)
 heap:RH M ν (λb=>H.getD b .gone) w
 fr:Fr M w0 w
 cg:∀i b,ν i=γ b->i<H.length
 len:T.length<=a.tmps.size
 le:Le ν0 ν
def QW{a:a8}{w:ψ}{ν:Nu}{L:E Item}(h:SR B X R G S a w ν)(c:O->ξ)(e:∀j,c j=η):rZ B X R G.length S.length (λt=>G.getD t .dead) (λb=>S.getD b .gone) L c a w ν:=by
 have f:∀(l:E Item)(k:O)(G:O->AV),gR c k l G=G:=by
  intro l;induction l with
  |nil=>intro k G;rfl
  |cons y l d=>intro k G;simp only[gR];rw[d];simp[e]
 have g:∀(l:E Item)(k:O)(S:O->AB),ff c k l S=S:=by
  intro l;induction l with
  |nil=>intro k G;rfl
  |cons y l d=>intro k G;simp only[ff];rw[d];simp[e]
 exact⟨λt=>by rw[f];exact h.tmps t,by rw[g];exact h.heap,h.fr,λi b m=>.inl (h.cg i b m),h.len,h.le⟩
def Jq{Γ:aG}{all:E a_}{d:E fb}{T':E AV}{H':E AB}(r:yP P Γ all all d G S T' H'){c:O->ξ}{a:a8}{w:ψ}{ν:Nu}(e:rZ B X R G.length S.length (λt=>G.getD t .dead) (λb=>S.getD b .gone) (items all d) c a w ν)(g:∀j,j<d.length->c j=ε):SR B X R T' H' a w ν:=by
 have k:∀(j:O) x,(items all d)[j]?=γ x->j<d.length:=by intro j x f;have:=(fY.1 f).1;simp[items]at this;omega
 refine⟨λt=>?_,?_,e.fr,λi b l=>?_,by rw[r.Db];exact e.len,e.le⟩
 ·rw[r.wi t,<-ux (S:=c) (T:=λt=>G.getD t .dead) rfl λj x f _=>by simpa using g j (k j x f)]
  exact e.tmps t
 ·have:(λb=>H'.getD b .gone)=ff c 0 (items all d) λb=>S.getD b .gone:=by
   funext b
   rw[r.Cq b];exact(zq rfl λj x f _=>by simpa using g j (k j x f)).symm
  rw[this];exact e.heap
 ·rcases e.cg i b l with h|⟨j,x,m,_,n⟩
  ·exact eN h r.zN
  ·exact r.lt j x m i n
def xR(e:fb):E O:=match e.d with|some a=>a.put.map (·.1)++vt e.base a.new.length|none=>[]
def I9(e:fb):E O:=match e.d with|some a=>a.rd++a.put.map (·.1)|none=>[]
def lx(ops:aX a_)(x y:Item):ξ:=
 Oper.apart ops x.o y.o&& !((xR x.e).any λb=>(I9 y.e).contains b||(xR y.e).contains b)&& !((I9 x.e).any λb=>(xR y.e).contains b)
def GM(ops:aX a_)(y:Item)(a:O):O->E Item->ξ
 |_,[]=>ε
 |i,x::l=>(a.testBit i||lx ops x y)&&GM ops y a (i+1) l
def jD:E a_->E O->E O
 |[],a=>a
 |o::r,a=>jD r (a++[o.after.toList.foldl (λs e=>cond (mH .any e) (s|||2^e.on|||a.getD e.on 0) s) 0])
def GN:O->E a_->ξ
 |_,[]=>ε
 |i,o::r=>(o.after.toList.all λe=> !mH .any e||ω e.on i)&&GN (i+1) r
def Ei(ops:aX a_):E Item->E Item->E O->ξ
 |_,[],_=>ε
 |done,y::r,m::a=>GM ops y m 0 done&&Ei ops (done++[y]) r a
 |_,_::_,[]=>η
def wz{a:aX ξ}(h:i<a.size)(x y:ξ):a.getD i x=a.getD i y:=by simp[rM,h]
structure FV (ops:E a_) (S:O->ξ):Prop where
 cl:∀(j:O) o,ops[j]?=γ o->S j=ε->∀e∈o.after,mH .any e=ε->S e.on=ε
def anP{f:E O}{S:O->ξ}{l:E Edge}{s0 i:O}(g:∀e∈l,mH .any e=ε->S e.on=ε/\∀q,(f.getD e.on 0).testBit q=ε->S q=ε)(b:∀q,s0.testBit q=ε->S q=ε)(h:(l.foldl (λs e=>cond (mH .any e) (s|||2^e.on|||f.getD e.on 0) s) s0).testBit i=ε):S i=ε:=by
 induction l generalizing s0 with
 |nil=>exact b i h
 |cons e l j=>
  simp only[Bm]at h;refine j (s0:=cond (mH .any e) (s0|||2^e.on|||f.getD e.on 0) s0) (λk c=>g k (l8 _ c)) ?_ h;intro q a;cases d:mH .any e with
  |false=>rw[d]at a;exact b q a
  |true=>
   rw[d]at a;simp only[a6,Nat.testBit_or,po,Nat.testBit_two_pow,aL]at a;obtain⟨m,n⟩:=g e jA d;rcases a with(a|a)|a
   ·exact b q a
   ·rw[<-a];exact m
   ·exact n q a
def r7{ops:E a_}{S:O->ξ}(y:FV ops S):∀{r:E a_}{acc:E O},ops.drop acc.length=r->(∀(j:O) o,j<acc.length->ops[j]?=γ o->(∀e∈o.after,mH .any e=ε->S e.on=ε)->∀q,(acc.getD j 0).testBit q=ε->S q=ε)->∀(j:O) o,ops[j]?=γ o->(∀e∈o.after,mH .any e=ε->S e.on=ε)->∀q,((jD r acc).getD j 0).testBit q=ε->S q=ε
 |[],acc,i,h,j,o,k,m,q,l=>by
  have n:j<acc.length:=by
   have:ops.length<=acc.length:=by simpa using i
   have:=(fY.1 k).1;omega
  exact h j o n k m q l
 |z::r,acc,i,h,j,o,k,m,q,l=>by
  simp only[jD]at l;refine r7 y ?_ ?_ j o k m q l
  ·simp only[bN,J7]
   rw[<-Bi,i];rfl
  ·intro p C s b d D a
   by_cases f:p<acc.length
   ·rw[cX,kN f,<-cX]at a
    exact h p C f b d D a
   ·have n:p=acc.length:=by simp at s;omega
    subst n;have:ops[acc.length]?=γ z:=by have:=tN (·[0]?) i;simpa using this
    rw[b]at this;cases this;rw[cX,oi (aQ _)]at a;simp only[Fz,kO,iK]at a;refine anP (S:=S) (λe t G=>?_) (by simp) a;have g:e∈z.after:=by simpa using t
    have A:=d e g G;refine⟨A,λH c=>?_⟩;by_cases u:e.on<acc.length
    ·have v:e.on<ops.length:=by have:=(fY.1 b).1;omega
     have B:ops[e.on]?=γ ops[e.on]:=df v;exact h e.on _ u B (λI w x=>y.cl e.on _ B A I w x) H c
    ·rw[cX,nk (by omega)]at c
     simp at c
def VB{ops:aX a_}{y:Item}{m:O}:∀{l:E Item}{k:O},GM ops y m k l=ε->∀(i:O) x,l[i]?=γ x->m.testBit (k+i)=ε\/lx ops x y=ε
 |[],_,_,i,x,a=>by simp at a
 |z::l,k,h,i,x,a=>by
  simp only[GM,aP,po]at h;cases i with
  |zero=>simp at a;subst a;exact h.1
  |succ i=>
   have:=VB h.2 i x (by simpa using a)
   rwa [show k+1+i=k+(i+1) by omega]at this
def I8{ops:aX a_}:∀{r done:E Item}{b:E O},Ei ops done r b=ε->∀(j:O) y,r[j]?=γ y->∀(i:O) x,i<done.length+j->(done++r)[i]?=γ x->(b.getD j 0).testBit i=ε\/lx ops x y=ε
 |[],_,_,_,j,y,a,_,_,_,_=>by simp at a
 |z::r,done,[],h,_,_,_,_,_,_,_=>by simp[Ei]at h
 |z::r,done,m::b,h,j,y,a,i,x,d,c=>by
  simp only[Ei,aP]at h;cases j with
  |zero=>simp at a;subst a;have:=VB h.1 i x (by rwa [kN (by simpa using d)]at c);simpa using this
  |succ j=>have:=I8 h.2 j y (by simpa using a) i x (by simp;omega) (by simpa using c);simpa using this
def r4{ops:aX a_}{x y:Item}(h:lx ops x y=ε):(∀d,x.o.dst=γ d->d∉y.o.looksAt ops/\y.o.dst≠γ d)/\(∀d,y.o.dst=γ d->d∉x.o.looksAt ops):=by simp only[lx,aP]at h;obtain⟨b,c,e⟩:=Oper.apart_spec h.1.1;exact⟨λd a=>⟨b d a,c d a⟩,e⟩
def JI{x:Item}(h:kf x i):i∈xR x.e:=by
 unfold kf at h;unfold xR;cases a:x.e.d with
 |none=>rw[a]at h;exact h.elim
 |some e=>
  rw[a]at h;simp only[nm,gh,List.mem_range'];rcases h with h|h
  ·right;exact⟨i-x.e.base,by omega,by omega⟩
  ·left
   obtain⟨c,d⟩:=tG.1 h;exact⟨_,rb d,rfl⟩
def aaM{x:Item}(h:rz x i):i∈I9 x.e:=by
 unfold rz at h;unfold I9;cases a:x.e.d with
 |none=>rw[a]at h;exact h.elim
 |some d=>
  rw[a]at h;simp only[nm,gh];rcases h with h|⟨p,c,rfl⟩
  ·exact .inl h
  ·exact .inr ⟨p,c,rfl⟩
def r3{ops:aX a_}{x y:Item}(h:lx ops x y=ε):(∀b,kf x b->¬rz y b/\¬kf y b)/\(∀b,kf y b->¬rz x b):=by
 simp only[lx,aP,g8]at h;obtain⟨⟨_,d⟩,e⟩:=h;refine⟨λb a=>?_,λb a c=>?_⟩
 ·have:=List.any_eq_false.1 d b (JI a)
  simp only[po,vH]at this;exact⟨λc=>this.1 (by simpa using aaM c),λf=>this.2 (by simpa using JI f)⟩
 ·have:=List.any_eq_false.1 e b (aaM c)
  exact this (by simpa using JI a)
def GO:∀{ops:E a_}{k:O},GN k ops=ε->∀(i:O) o,ops[i]?=γ o->∀e∈o.after,mH .any e=ε->e.on<k+i
 |[],_,_,i,o,a=>by simp at a
 |z::l,k,h,i,o,a=>by
  simp only[GN,aP]at h;cases i with
  |zero=>simp at a;subst a;intro e b c;have:=bT.1 h.1 e (by simpa using b);rw[c]at this;simpa[bM]using this
  |succ i=>have:=GO h.2 i o (by simpa using a);intro e b c;have:=this e b c;omega
def jS(ops:E a_)(a:E fb):ξ:=GN 0 ops&&Ei ops.toArray [] (items ops a) (jD ops [])
def Uq{Γ:aG}(hΓ:aK P Γ){all:E a_}{A:E fb}(hM:∀k,X.heap.size<=k->B k){T':E AV}{H':E AB}(r:ub P Γ all all A G S T' H')(hB:jS all A=ε){a:a8}{w:ψ}{ν:Nu}{Q:e9->a8->ψ->Prop}(h:SR B X R G S a w ν)(hQ:∀C w' p,SR B X R T' H' C w' p->C.defers=a.defers->Q .normal C w'):wpAny P .any all.toArray Q all.length (tx all.length η) a w:=by
 have ra:=xo r;have rl:=Aw r;have hlen:(items all A).length=all.length:=by simp[items,rl]
 simp only[jS,aP]at hB;obtain⟨hB1,hB2⟩:=hB;have W:∀(i:O) o,all[i]?=γ o->∀e∈o.after,mH .any e=ε->e.on<i:=λi o H e he D=>by simpa using GO hB1 i o H e he D
 have I:∀(i j:O) x y,i<j->(items all A)[i]?=γ x->(items all A)[j]?=γ y->((jD all []).getD j 0).testBit i=ε\/lx all.toArray x y=ε:=λi j x y hij hx n=>I8 hB2 j y n i x (by simpa using hij) (by simpa using hx)
 have key:∀(f:O)(d:aX ξ)(C:a8)(w':ψ)(p:Nu),d.size=all.length->d.toList.count η=f->FV all (λj=>d.getD j η)->
   rZ B X R G.length S.length (λt=>G.getD t .dead) (λb=>S.getD b .gone) (items all A) (λj=>d.getD j η) C w' p->C.defers=a.defers->wpAny P .any all.toArray Q f d C w':=by
  intro f;induction f with
  |zero=>
   intro d C w' p hs L hc st hd;have u:∀j,j<all.length->d.getD j η=ε:=by
    intro j g;have hjs:j<d.size:=by omega
    have hne:η∉d.toList:=Fm.1 L;have:d[j]≠η:=λe=>hne (by rw[<-e];simp)
    simp[rM,hjs];simpa using this
   refine⟨?_,hQ C w' p (Jq ra st λj g=>u j (by omega)) hd⟩;rw[List.eq_nil_iff_forall_not_mem];intro j g;obtain⟨h1,o,H,_⟩:=vG.1 g;have N:j<all.length:=by simpa using(cC.1 H).1
   have:=u j N;rw[wz (by omega) η ε,h1]at this;cases this
  |succ f ih=>
   intro d C w' p hs L hc st hd;refine⟨λhnil=>?_,λi hi=>?_⟩
   ·have u:∀j,j<all.length->d.getD j η=ε:=by
     intro j;induction j using Nat.strongRecOn with
     |_ j jh=>
      intro g;cases hl:d.getD j η with
      |true=>rfl
      |false=>
       have:j∈Region.ready .any all.toArray d:=by rw[vG];refine⟨by rw[wz (by omega) ε η];exact hl,all[j],by simp[g],λe he D=>?_⟩;have hlt:=W j all[j] (by simp[g]) e he D;exact jh e.on hlt (by omega)
       rw[hnil]at this;cases this
    exact hQ C w' p (Jq ra st λj g=>u j (by omega)) hd
   ·obtain⟨h1,o,H,he⟩:=vG.1 hi
    have hil:i<all.length:=by simpa using(cC.1 H).1
    have M:all[i]?=γ o:=by simpa using H
    have z:d.getD i η=η:=by rw[wz (by omega) η ε];exact h1
    have m:(items all A)[i]?=γ (items all A)[i]:=df (by omega);generalize hxg:(items all A)[i]=x at m;have hxo:x.o=o:=by
     simp only[items,Fp]at m;split at m
     ·rename_i o' e' h1' h2'
      cases m;rw[M]at h1';cases h1';rfl
     ·cases m
    --T of i are d;those of a d one are d
    have anc:∀q,((jD all []).getD i 0).testBit q=ε->d.getD q η=ε:=r7 (S:=λj=>d.getD j η) (r:=all) (acc:=[]) hc rfl (λj o g=>by simp at g) i o M he;have anc':∀j,d.getD j η=ε->j<all.length->∀q,((jD all []).getD j 0).testBit q=ε->d.getD q η=ε:=by intro j g N;have hjx:all[j]?=γ all[j]:=df N;exact r7 (S:=λj=>d.getD j η) (r:=all) (acc:=[]) hc rfl (λj o g=>by simp at g) j _ hjx (hc.cl j _ hjx g)
    have v:∀(j:O) y,j<i->(items all A)[j]?=γ y->lx all.toArray y x=ε\/d.getD j η=ε:=by
     intro j y g n;rcases I j i y x g n m with h|h
     ·exact .inr (anc j h)
     ·exact .inl h
    have l:∀(j:O) y,i<j->(items all A)[j]?=γ y->lx all.toArray x y=ε\/d.getD j η=η:=by
     intro j y g n;rcases I i j x y g m n with h|h
     ·right
      cases hl:d.getD j η with
      |false=>rfl
      |true=>
       have N:j<all.length:=by have:=(fY.1 n).1;omega
       have:=anc' j hl N i h;rw[z]at this;cases this
     ·exact .inl h
    refine QX hΓ hM ra m st z (λt ht=>?_) (λb D=>?_) (λt ht j y g n s=>?_) (λb D j y g n hwy=>?_) λa'' w'' ν'' st' hd'=>?_
    ·refine ux rfl λj y n s=>?_
     simp only[bH];rcases vw j i with g|g|g
     ·rw[di g]
      exact(v j y g n).resolve_left λha=>((r4 ha).1 t s).1 ht
     ·subst g
      rw[z];simp
     ·rw[gF]
      exact(l j y g n).resolve_left λha=>(r4 ha).2 t s ht
    ·refine zq rfl λj y n s=>?_
     simp only[bH];rcases vw j i with g|g|g
     ·rw[di g]
      exact(v j y g n).resolve_left λha=>((r3 ha).1 b s).1 D
     ·subst g
      rw[z];simp
     ·rw[gF]
      exact(l j y g n).resolve_left λha=>(r3 ha).2 b s D
    ·rcases l j y g n with h|h
     ·exact aR s ((r4 h).1 t ht).2
     ·exact h
    ·rcases l j y g n with h|h
     ·exact aR hwy ((r3 h).1 b D).2
     ·exact h
    ·have U:(λj=>(d.setIfInBounds i ε).getD j η)=eR (λj=>d.getD j η) i:=by
      funext j
      simp only[eR];by_cases e:i=j
      ·subst e
       simp[rM,show i<d.size by omega]
      ·rw[ym η e]
       have:(j==i)=η:=by simp;exact λh=>e h.symm
       rw[this,ac_]
     refine ih (d.setIfInBounds i ε) a'' w'' ν'' (by simpa using hs) ?_ ⟨λj o' ho' g e he' D=>?_⟩ (by rw[U];exact st') (hd'.trans hd)
     ·have hi':i<d.toList.length:=by simp;omega
      have hval:d.toList[i]=η:=by
       have:i<d.size:=by omega
       simp[rM,this]at z;simpa using z
      simp only[JN];rw[adP hi'];simp[hval,L]
     ·have hset':∀j,(d.setIfInBounds i ε).getD j η=eR (λj=>d.getD j η) i j:=congrFun U
      rw[hset']at g⊢;simp only[eR,po,fm]at g⊢;rcases g with g|rfl
      ·exact .inl (hc.cl j o' ho' g e he' D)
      ·rw[M]at ho'
       cases ho';exact .inl (he e he' D)
 have rep:∀j,(tx all.length η).getD j η=η:=by intro j;rw[rN,RJ];split<;>rfl
 refine key all.length _ a w ν (by simp) (by simp) ⟨λj o H g=>?_⟩ (QW h _ λj=>rep j) rfl;rw[rep j]at g;cases g
abbrev dx:=Ex->E AV->E AB->am
abbrev Sum:=E AV->E AB->dx->am
def wl(id:O)(a:dx):dx:=λe T H=>match e with
 | .exit j=>cond (Ψ j id) (a .normal T H) (a (.exit j) T H)
 |e=>a e T H
def EX(f:E AV->E AB->am)(a:dx):dx:=λe T H=>match e with
 | .normal=>f T H
 |e=>a e T H
def iter(f:E AV->E AB->dx->am):O->E AV->E AB->dx->am
 |0,_,_,_=>.err
 |m+1,T,H,a=>f T H (EX (λT H=>iter f m T H a) a)
def QB(T:E AV)(c:cP)(b:ξ):E AV:=match c with| .tmp t=>T.set t (.v (.bool b))|_=>T
def te(P:bS)(T:E AV)(H:E AB):E Sz->χ (E AV×E ξ)
 |[]=>γ ([],[])
 | .tmp t::r=>match te P T H r with
  |some (a,b)=>γ (T.getD t .dead::a,b)
  |none=>ζ
 | .cell x t::r=>match wN P H t (T.getD x .dead),te P T H r with
  |some c,γ (a,b)=>γ (c.val::a,c.aw++b)
  |_,_=>ζ
def ru:E AV->AV
 |[x]=>x
 |l=>.af l
def pV(P:bS)(fn:cb)(a:AV->E AB->am):dx:=λe T H=>match e with
 | .exit _=>.err
 |_=>match te P T H fn.results.toList with
  |some (b,c)=>Ξ c (a (ru b) H)
  |none=>.err
abbrev Cf:=dm->E AV->E AB->(AV->E AB->am)->am
def N1(o:a_)(T:E AV):χ (dm×E AV):=
 match o.op with
 | .call c=>match c.callee with
  | .value f=>match Hr (bP T f)with
   |some (g,a)=>γ (g,c.args.toList.map (bP T)++a)
   |_=>ζ
  |_=>ζ
 |_=>ζ
def xI(P:bS)(Γ:aG)(cf:Cf)(o:a_)(T:E AV)(H:E AB)(a:E AV->E AB->am):am:=
 match fx P Γ o T H H.length with
 |some b=>Ξ b.aw (cond (lH T o.dst&&b.put.all λp=>(H.getD p.1 .gone).wr) (Hm T o.dst b.val H b a) .err)
 |none=>match N1 o T with
  |some (g,c)=>cf g c H λv d=>cond (lH T o.dst) (nG v λv=>wn (my T o.dst v) λT=>a T d) .err
  |none=>.err
def xv(o:a_)(T:E AV)(H:E AB)(a:E AV->E AB->am):am:=
 cond (lH T o.dst) (a (my T o.dst (.v aZ)) H) .err
def fE(P:bS)(Γ:aG)(cf:Cf)(all:E a_):E a_->E AV->E AB->(E AV->E AB->am)->am
 |[],T,H,a=>a T H
 |o::c,T,H,a=>
  match p4 all T o.guard with
  | .fail=>.err
  | .go=>xI P Γ cf o T H λT H=>fE P Γ cf all c T H a
  | .skip=>xv o T H λT H=>fE P Γ cf all c T H a
  | .ask d b e=>
   cond b (cond e (xI P Γ cf o (T.set d (.v (.bool ε))) H λT H=>fE P Γ cf all c T H a) (xv o (T.set d (.v (.bool ε))) H λT H=>fE P Γ cf all c T H a))
    (cond e (xv o (T.set d (.v (.bool η))) H λT H=>fE P Γ cf all c T H a) (xI P Γ cf o (T.set d (.v (.bool η))) H λT H=>fE P Γ cf all c T H a))
def a0(P:bS)(Γ:aG):O->(O->χ Sum)->bc->E AV->E AB->dx->am
 |0,_,_,_,_,_=>.err
 |n+1,e,c,T,H,d=>
  match c with
  | .skip=>d .normal T H
  | .label _=>d .normal T H
  | .region _ ops f=>
   cond f (ku P Γ ops.toList ops.toList T H [] λi j k=>cond (jS ops.toList k.reverse) (d .normal i j) .err)
    (fE P Γ (λg h H l=>match P.funcs[g]?with
      |some fn=>(match fn.body with
       |some c=>qQ (h++eH (fn.ntmps-h.length) (.v aZ)) λT=>a0 P Γ n (λ_=>ζ) c T H (pV P fn l)
       |none=>.err)
      |none=>.err) ops.toList ops.toList T H λi j=>d .normal i j)
  | .seq a b=>a0 P Γ n e a T H (EX (λT H=>a0 P Γ n e b T H d) d)
  | .cond c x y=>(match bP T c with
   | .v (.bool q)=>cond q (a0 P Γ n e x (QB T c ε) H d) (a0 P Γ n e y (QB T c η) H d)
   |_=>.err)
  | .block id b=>(match e id with
   |some S=>S T H d
   |none=>a0 P Γ n e b T H (wl id d))
  | .loop b=>iter (a0 P Γ n e b) n T H d
  | .scope b=>a0 P Γ n e b T H d
  | .exit id=>d (.exit id) T H
  | .ret=>d .ret T H
  |_=>.err
def Ex.to:Ex->e9
 | .normal=>.normal
 | .exit id=>.exit id
 | .ret=>.ret
def post(M:O->Prop)(f:ψ)(c:Nu)(b:dx)(Q:Ex->E AV->E AB->Prop):e9->a8->ψ->Prop:=
 λe a w=>∃d T H g,e=Ex.to d/\(b d T H).ok Q/\SR M f c T H a w g/\a.defers=[]
def ck(P:bS)(m0:O)(c:bc)(S:Sum):Prop:=
 ∀(M:O->Prop)(f:ψ)(e:Nu),(∀k,f.heap.size<=k->M k)->(∀i b,e i=γ b->i<m0)->∀(T:E AV)(H:E AB)(d:dx)(Q:Ex->E AV->E AB->Prop)(a:a8)(w:ψ)(g:Nu),(S T H d).ok Q->SR M f e T H a w g->a.defers=[]->c.wp P (post M f e d Q) a w
def nB(id:O):bc->E bc
 | .seq a b=>nB id a++nB id b
 | .cond _ x y=>nB id x++nB id y
 | .block j b=>cond (Ψ j id) [.block j b] []++nB id b
 | .loop b=>nB id b
 | .scope b=>nB id b
 |_=>[]
def dk(P:bS)(m0:O)(Λ:O->χ Sum)(c:bc):Prop:=∀id S,Λ id=γ S->∀b∈nB id c,ck P m0 b S
def art{b:dx}{e:e9}{a:a8}{w:ψ}(h:post B X R (wl i b) Q e a w):pr i (post B X R b Q) e a w:=by
 obtain⟨l,T,H,d,rfl,c,f,g⟩:=h;cases l with
 |normal=>exact⟨.normal,T,H,d,rfl,c,f,g⟩
 |ret=>exact⟨.ret,T,H,d,rfl,c,f,g⟩
 |exit j=>
  simp only[Ex.to,pr];simp only[wl]at c;by_cases k:j=i
  ·subst k
   simp only[mG,a6]at c;simp only[qA];exact⟨.normal,T,H,d,rfl,c,f,g⟩
  ·have:Ψ j i=η:=by
    cases m:Ψ j i with
    |true=>exact aR (cA m) k
    |false=>rfl
   rw[this]at c;rw[bI k];exact⟨.exit j,T,H,d,rfl,c,f,g⟩
def aru{b:dx}{e:e9}{a:a8}{w:ψ}(h:post B X R b Q e a w):Exit.noGoto (post B X R b Q) e a w:=by
 have c:=h;obtain⟨d,T,H,f,rfl,g,i,k⟩:=h;cases d with
 |normal=>exact c
 |ret=>exact c
 |exit j=>exact c
def aay{b:dx}{f:E AV->E AB->am}{next:a8->ψ->Prop}{e:e9}{a:a8}{w:ψ}(h:post B X R (EX f b) Q e a w)(i:∀T H ν,(f T H).ok Q->SR B X R T H a w ν->a.defers=[]->next a w):e9.then next (post B X R b Q) e a w:=by
 obtain⟨k,T,H,ν,rfl,c,d,g⟩:=h;cases k with
 |normal=>exact i T H ν c d g
 |ret=>exact⟨.ret,T,H,ν,rfl,c,d,g⟩
 |exit j=>exact⟨.exit j,T,H,ν,rfl,c,d,g⟩
def Jj{c:cP}(h:bP G c=.v (.bool q)):QB G c q=G:=by
 cases c with
 |tmp t=>exact Jk h (by simp)
 |_=>rfl
def Enters(P:bS):Prop:=∀g fn,P.funcs[g]?=γ fn->fn.body.isSome=ε->∀args w,(g_ g args).run P w=.ok (.enter g args) w
def TO(P:bS)(M:O->Prop)(Q:Ex->E AV->E AB->Prop)(cf:Cf):Prop:=
 ∀g d H j (c:E τ) w f,(cf g d H j).ok Q->aB f d c->RH M f (λb=>H.getD b .gone) w->(∀i b,f i=γ b->i<H.length)->(∀k,w.heap.size<=k->M k)->
  (∀args w,(g_ g args).run P w=.ok (.enter g args) w)/\
  aM P g c.toArray w λe l=>∃v m h a,e=.returned v/\(j m h).ok Q/\VR a m v/\RH M a (λb=>h.getD b .gone) l/\Fr M w l/\Le f a/\∀i b,a i=γ b->i<h.length
def kT{x y:am}(h:(cond q x y).ok Q):(q=ε/\x.ok Q)\/(q=η/\y.ok Q):=by
 cases q
 ·exact .inr ⟨rfl,h⟩
 ·exact .inl ⟨rfl,h⟩
def SR.put{M:O->Prop}{k:ψ}{f:Nu}{T:E AV}{H H':E AB}{a:a8}{w w':ψ}{ν c:Nu}{dst:χ Tmp}{x:AV}{v:τ}(h:SR M k f T H a w ν)(l:lH T dst=ε)(m:Le ν c)(n:VR c x v)(o:RH M c (λb=>H'.getD b .gone) w')(p:Fr M k w')(g:∀i b,c i=γ b->i<H'.length):SR M k f (my T dst x) H' (a.put dst v) w' c:=by
 have j:∀d,dst=γ d->d<a.tmps.size:=by
  intro d e;have:d<T.length:=by simpa[lH,e,bM]using l
  exact eN this h.len
 refine⟨λt=>?_,o,p,g,by rw[Eh,QC];exact h.len,h.le.trans m⟩;rw[abv l,xi j];split
 ·exact n
 ·exact(h.tmps t).le m
def Es{P:bS}{Γ:aG}(I:aK P Γ){cf:Cf}{M:O->Prop}{w0:ψ}{ν0:Nu}(hM:∀k,w0.heap.size<=k->M k){Q:Ex->E AV->E AB->Prop}(L:TO P M Q cf){all:E a_}{Qw:e9->a8->ψ->Prop}{m:E AV->E AB->am}:∀(ops:E a_)(k:O)(T:E AV)(H:E AB)(a:a8)(w:ψ)(ν:Nu),all.drop k=ops->(fE P Γ cf all ops T H m).ok Q->SR M w0 ν0 T H a w ν->(∀T' H' N w' r,(m T' H').ok Q->SR M w0 ν0 T' H' N w' r->N.defers=a.defers->Qw .normal N w')->tU P all.toArray Qw (vt k ops.length) a w
 |[],k,T,H,a,w,ν,_,h,s,hQ=>by simp only[eY,List.range'_zero,tU];exact hQ T H a w ν h s rfl
 |o::q,k,T,H,a,w,ν,hd,h,s,hQ=>by
  have y:all[k]?=γ o:=by have:=tN (·[0]?) hd;simpa using this
  have S:all.drop (k+1)=q:=by rw[<-Bi,hd];rfl
  have vT:∀t,VR ν (T.getD t .dead) (a.tmps.getD t aZ):=s.tmps;rw[bZ,ad0,TL];have skip:gy all T o.guard η->(xv o T H λT H=>fE P Γ cf all q T H m).ok Q->l_ P all.toArray Qw k (tU P all.toArray Qw (vt (k+1) q.length)) a w:=by
   intro hw h;unfold l_;simp only[vr,y];rw[AZ hw λt _=>vT t];simp only[tz,tQ];unfold xv at h;rcases kT h with⟨U,A⟩|⟨_,A⟩
   ·refine Es I hM L q (k+1) _ H _ w ν S A (s.put U (Le.refl _) (by simp only[VR]) s.heap s.fr s.cg) λT' H' N w' r y B C=>hQ T' H' N w' r y B (by rw[C,kG])
   ·exact A.elim
  have step:gy all T o.guard ε->(xI P Γ cf o T H λT H=>fE P Γ cf all q T H m).ok Q->l_ P all.toArray Qw k (tU P all.toArray Qw (vt (k+1) q.length)) a w:=by
   intro hw h;unfold l_;simp only[vr,y];rw[AZ hw λt _=>vT t];simp only[qA];refine .inl ?_;unfold xI at h;simp only[M0,Hk,CI]at h;split at h
   ·rename_i W hδ
    obtain⟨ho,h⟩:=zY h;rcases kT h with⟨U,A⟩|⟨_,A⟩
    ·rw[aP]at U
     have u:∀p∈W.put,(H.getD p.1 .gone).wr=ε:=λp hp=>bT.1 U.2 p hp
     have D:∀j,j<W.new.length->ν (H.length+j)=ζ:=by
      intro j _;cases R:ν (H.length+j)with
      |none=>rfl
      |some b=>have:=s.cg _ b R;omega
     refine IT I hδ ho (λz _=>lK λt _=>vT t) (λb _=>s.heap.br b) s.heap.lt D (λi' c j' b b' hp _ hne hl U A=>s.heap.sep i' j' b b' hne (u _ hp) hl U A) (s.heap.Gt (λk y=>hM k (cF s.fr.size y)) u) λv w' r G=>?_
     have hRH:=s.heap.step (λk y=>hM k (cF s.fr.size y)) G u D;have e:(λb=>(i3 H W).getD b .gone)=kp H.length W λb=>H.getD b .gone:=by
      funext b
      exact Gi u b
     have hdom:∀i b,r i=γ b->i<(i3 H W).length:=by
      intro i b hb;have hl:(i3 H W).length=H.length+W.new.length:=by simp[i3,ta]
      rw[hl];cases R:ν i with
      |some b'=>have:=s.cg i b' R;omega
      |none=>have:=G.cg i R (by rw[hb];simp);omega
     refine Es I hM L q (k+1) _ _ _ w' r S A (s.put U.1 G.le G.val (by rw[e];exact hRH) (G.fr s.heap u s.fr) hdom) λT' H' N w' r y B C=>hQ T' H' N w' r y B (by rw[C,kG])
    ·exact A.elim
   ·split at h
    ·rename_i g avs n
     obtain⟨dst,op,ty,pos,X,qz⟩:=o;unfold N1 at n;split at n
     ·rename_i c hop
      simp only at hop;subst hop;split at n
      ·rename_i f hcal
       split at n
       ·rename_i g' caps hf
        simp only[aC,cI]at n;obtain⟨rfl,rfl⟩:=n;have hfv:=lK (T:=T) (a:=a) (ν:=ν) (z:=f) λt _=>vT t
        obtain⟨l,A,h3⟩:=M' hf hfv;have hargs:aB ν (c.args.toList.map (bP T)) (c.args.toList.map a.eval):=uc λx _=>lK λt _=>vT t
        obtain⟨c1,c2⟩:=L _ _ _ _ _ w ν h (hargs.append h3) s.heap s.cg (λk y=>hM k (cF s.fr.size y));have he:(dw a.eval ⟨dst,.call c,ty,pos,X,qz⟩).run P w=.ok (.enter g' (c.args.toList.map a.eval++l).toArray) w:=by
         have e:(c.args.map a.eval++l.toArray)=(c.args.toList.map a.eval++l).toArray:=by apply gg;simp
         rw[<-e];simp[dw,lu,hcal,A,Fb,invoke,c1]
        unfold ot;rw[he];simp only[yi];refine c2.mono ?_;rintro e w' ⟨v,av,H',r,rfl,k1,k2,k3,k4,k5,k6⟩;rcases kT k1 with⟨d1,d2⟩|⟨_,d2⟩
        ·exact Es I hM L q (k+1) _ _ _ w' r S d2 (s.put d1 k5 k2 k3 (s.fr.trans k4) k6) λT' H' N w' r y B C=>hQ T' H' N w' r y B (by rw[C,kG])
        ·exact d2.elim
       ·cases n
      ·cases n
     ·cases n
    ·exact h.elim
  unfold fE at h;cases n:p4 all T o.guard with
  |fail=>rw[n]at h;exact h.elim
  |go=>rw[n]at h;exact step (by simp[gy,n]) h
  |skip=>rw[n]at h;exact skip (by simp[gy,n]) h
  |ask d b want=>
   rw[n]at h;have hdb:T.getD d .dead=.v (.bool b):=by
    unfold p4 at n;split at n
    ·cases n
    ·split at n
     ·cases n
     ·split at n
      ·rename_i hh;cases n;exact hh
      ·cases n
      ·cases n
   have hs:T.set d (.v (.bool b))=T:=Jk hdb (by simp);cases b<;>cases want<;>simp only[a6,be,hs]at h
   ·exact step (by simp[gy,n]) h
   ·exact skip (by simp[gy,n]) h
   ·exact skip (by simp[gy,n]) h
   ·exact step (by simp[gy,n]) h
def aiy{Γ:aG}(g:aK P Γ)(e:P.follows .mixedOrders=ε)(hM:∀k,X.heap.size<=k->B k){ops:aX a_}{b:dx}{a:a8}{w:ψ}{ν:Nu}(h:(ku P Γ ops.toList ops.toList G S [] λT' H' tr=>cond (jS ops.toList tr.reverse) (b .normal T' H') .err).ok Q)(d:SR B X R G S a w ν)(o:a.defers=[]):(Code.region i ops ε).wp P (post B X R b Q) a w:=by
 obtain⟨p,T',H',r,f⟩:=zd h;rcases kT f with⟨q,f⟩|⟨_,f⟩
 ·have s:jS ops.toList p=ε:=by simpa using q
  refine TM e ?_;have j:SR B X R G S a {w with drawn:=w.drawn+1} ν:=⟨d.tmps,⟨λc=>(d.heap.br c).of_block λ_ _ _=>rfl,d.heap.sep,d.heap.own,d.heap.lt,d.heap.eL⟩,d.fr.drew,d.cg,d.len,d.le⟩;have:=Uq (Q:=post B X R b Q) g hM r s j λu v m t n=>⟨.normal,T',H',m,rfl,f,t,n.trans o⟩
  simpa using this
 ·exact f.elim
def amR{Λ:O->χ Sum}{x y:bc}(h:dk P i Λ (.seq x y)):dk P i Λ x/\dk P i Λ y:=
 ⟨λid S a b c=>h id S a b (azj _ c),λid S a b c=>h id S a b (adW _ c)⟩
def amO{Λ:O->χ Sum}{c:cP}{x y:bc}(h:dk P i Λ (.cond c x y)):dk P i Λ x/\dk P i Λ y:=
 ⟨λid S a b d=>h id S a b (azj _ d),λid S a b d=>h id S a b (adW _ d)⟩
def amN{Λ:O->χ Sum}{j:O}{x:bc}(h:dk P i Λ (.block j x)):dk P i Λ x/\∀S,Λ j=γ S->ck P i (.block j x) S:=
 ⟨λid S a b c=>h id S a b (adW _ c),λS a=>h j S a _ (by simp[nB])⟩
def amQ{Λ:O->χ Sum}{x:bc}(h:dk P i Λ (.scope x)):dk P i Λ x:=λid S a b c=>h id S a b c
def amP{Λ:O->χ Sum}{x:bc}(h:dk P i Λ (.loop x)):dk P i Λ x:=λid S a b c=>h id S a b c
def Em(tmps:aX τ):Sz->Sem τ
 | .tmp t=>pure (tmps.getD t aZ)
 | .cell a t=>do vF t (<-asAddr (tmps.getD a aZ))
def arU(fn:cb)(tmps:aX τ):results fn tmps=(do
  let vs<-fn.results.mapM (Em tmps)
  pure (if h:vs.size=1 then vs[0]else .tuple vs)):=by
 have:(λr:Sz=>match r with
  | .tmp t=>(pure (tmps.getD t aZ):Sem τ)
  | .cell a t=>do vF t (<-asAddr (tmps.getD a aZ)))=Em tmps:=by
  funext r
  cases r<;>rfl
 rw[<-this];rfl
def Qb{P:bS}{T:E AV}{H:E AB}{ν:Nu}{w:ψ}{tmps:aX τ}(d:∀t,VR ν (T.getD t .dead) (tmps.getD t aZ))(n:∀i,BR ν i (H.getD i .gone) w):∀{l:E Sz}{vs:E AV}{ob:E ξ},te P T H l=γ (vs,ob)->aJ ob=ε->∃c:E τ,(l.mapM (Em tmps)).run P w=.ok c w/\aB ν vs c
 |[],vs,ob,h,_=>by simp only[te,aC,cI]at h;obtain⟨rfl,rfl⟩:=h;exact⟨[],by simp,by simp only[aB]⟩
 | .tmp t::l,vs,ob,h,o=>by
  simp only[te]at h;split at h
  ·rename_i p f q
   simp only[aC,cI]at h;obtain⟨rfl,rfl⟩:=h;obtain⟨c,r,s⟩:=Qb d n q o;refine⟨tmps.getD t aZ::c,?_,?_⟩
   ·rw[List.mapM_cons]
    simp[Em,r]
   ·simp only[aB]
    exact⟨d t,s⟩
  ·cases h
 | .cell x t::l,vs,ob,h,o=>by
  simp only[te]at h;split at h
  ·rename_i A p f m q
   simp only[aC,cI]at h;obtain⟨rfl,rfl⟩:=h;have g:aJ A.aw=ε/\aJ f=ε:=by simpa[aJ,gM]using o
   obtain⟨c,r,s⟩:=Qb d n q g.2;obtain⟨v,y,B⟩:=YX m g.1 (d x) λi _=>n i
   refine⟨v::c,?_,?_⟩
   ·have C:∃a,tmps.getD x aZ=.pointer (γ a):=by
     unfold wN at m;split at m
     ·rename_i i G j k D
      have:=d x;rw[D]at this;simp only[VR]at this;obtain⟨b,_,e⟩:=this;exact⟨_,e⟩
     ·cases m
    obtain⟨a,z⟩:=C;rw[z]at y;have u:(vF t a).run P w=.ok v w:=by simpa[Fe,Bd]using y
    rw[List.mapM_cons];simp[Em,z,asAddr,u,r]
   ·simp only[aB]
    exact⟨B,s⟩
  ·cases h
def aaP{fn:cb}{tmps:aX τ}(c:∀t,VR R (G.getD t .dead) (tmps.getD t aZ))(d:∀i,BR R i (S.getD i .gone) X){vs:E AV}{ob:E ξ}(h:te P G S fn.results.toList=γ (vs,ob))(f:aJ ob=ε):∃v,(results fn tmps).run P X=.ok v X/\VR R (ru vs) v:=by
 obtain⟨b,g,a⟩:=Qb c d h f;have e:(results fn tmps).run P X=.ok (if h:b.toArray.size=1 then b.toArray[0]else .tuple b.toArray) X:=by rw[arU,Array.mapM_eq_mapM_toList];simp only[f_,Sem.run_map];rw[g];simp
 refine⟨_,e,?_⟩
 match vs,b,a with
 |[x],[y],a=>simp only[aB]at a;simpa[ru]using a.1
 |[],[],a=>simp only[ru,VR];exact⟨[],by simp,a⟩
 |x::j::l,y::k::m,a=>simp only[ru,VR];exact⟨_,by simp,a⟩
 |[_],[],a=>simp only[aB]at a
 |[],_::_,a=>simp only[aB]at a
 |[_],_::_::_,a=>simp only[aB]at a;exact a.2.elim
 |_::_::_,[],a=>simp only[aB]at a
 |_::_::_,[_],a=>simp only[aB]at a;exact a.2.elim
def rF{M:O->Prop}{vals:E τ}{H:E AB}{w:ψ}{fn:cb}(f:aB R G vals)(g:RH M R (λb=>H.getD b .gone) w)(d:∀i b,R i=γ b->i<H.length):SR M w R (G++eH (fn.ntmps-G.length) (.v aZ)) H {tmps:=vals.toArray++tx (fn.ntmps-vals.toArray.size) aZ,defers:=[]} w R:=by
 have a:=f.length;refine⟨λt=>?_,g,Fr.refl _ _,d,?_,Le.refl _⟩
 ·simp only[cX,rN]
  by_cases e:t<G.length
  ·obtain⟨y,h,j⟩:=f.get (df e)
   rw[kN e,df e];rw[ac6 (by simpa using a▸e)];simp only[vr,h];exact j
  ·rw[oi (by omega)]
   by_cases c:t-G.length<fn.ntmps-G.length
   ·rw[azh,aU c]
    simp only[iK,VR];rw[Array.getElem?_append_right (by simp;omega),RJ];simp[a▸c]
   ·rw[azh,bI c]
    simp only[Option.getD_none,VR]
 ·simp;omega
def M5{fn:cb}{j:AV->E AB->am}{e:e9}{k:a8}{w':ψ}(o:post B X R (pV P fn j) Q e k w'):bodyPost P fn (λe w'=>∃v f H' a,e=.returned v/\(j f H').ok Q/\VR a f v/\RH B a (λb=>H'.getD b .gone) w'/\Fr B X w'/\Le R a/\∀i b,a i=γ b->i<H'.length) e k w':=by
 obtain⟨p,q,H',a,rfl,d,c,r⟩:=o;have g:(match te P q H' fn.results.toList with|some (l,m)=>Ξ m (j (ru l) H')|none=>.err:am).ok Q->k.defers=[]/\∃v,(results fn k.tmps).run P w'=.ok v w'/\∃n f H' a,Ending.returned v=.returned n/\(j f H').ok Q/\VR a f n/\RH B a (λb=>H'.getD b .gone) w'/\Fr B X w'/\Le R a/\∀i b,a i=γ b->i<H'.length:=by
  intro d;split at d
  ·rename_i l m h
   obtain⟨s,t⟩:=zY d;obtain⟨v,u,x⟩:=aaP c.tmps c.heap.br h s;exact⟨r,v,u,v,ru l,H',a,rfl,t,x,c.heap,c.fr,c.le,c.cg⟩
  ·exact d.elim
 cases p with
 |normal=>exact g d
 |ret=>exact g d
 |exit id=>exact d.elim
def sq{Γ:aG}(W:aK P Γ)(X:P.follows .mixedOrders=ε)(hent:Enters P):∀(n m0:O)(Λ:O->χ Sum)(c:bc),dk P m0 Λ c->∀(M:O->Prop)(o:ψ)(f:Nu),(∀k,o.heap.size<=k->M k)->(∀i b,f i=γ b->i<m0)->∀(T:E AV)(H:E AB)(d:dx)(Q:Ex->E AV->E AB->Prop)(a:a8)(w:ψ)(ν:Nu),(a0 P Γ n Λ c T H d).ok Q->SR M o f T H a w ν->a.defers=[]->c.wp P (post M o f d Q) a w:=by
 intro n;induction n with
 |zero=>intro m0 Λ c _ M o f hM j T H d Q a w ν h;exact h.elim
 |succ n D=>
  intro m0 Λ c hL M o f hM j T H d Q a w ν h s u;have r:∀e,(d e T H).ok Q->post M o f d Q (Ex.to e) a w:=λe N=>⟨e,T,H,ν,rfl,N,s,u⟩
  cases c with
  |skip=>exact wp_skip (r .normal h)
  |label l=>exact wp_label (r .normal h)
  |region id ops draw=>
   cases draw with
   |true=>exact aiy W X hM h s u
   |false=>
    refine wp_region ?_;simp only[a0,be]at h;have:=Es (Qw:=post M o f d Q) (all:=ops.toList) W hM (Q:=Q) (λg avs G Kc vals B p U hv hH I hM'=>?_) ops.toList 0 T H a w ν rfl h s λT' G R B p N v A=>⟨.normal,T',G,p,rfl,N,v,A.trans u⟩
    ·rw[<-ad1]at this
     simpa using this
    ·split at U
     ·rename_i fn hf
      split at U
      ·rename_i c' L
       rw[uv]at U;refine⟨λargs w=>hent g fn hf (by rw[L];rfl) args w,?_⟩;refine FP hf L (oF (D G.length (λ_=>ζ) c' (λ_ _ h=>by cases h) M B p hM' I _ G (pV P fn Kc) Q _ B p U (rF hv hH I) rfl) λe R w'' C=>?_);exact M5 C
      ·exact U.elim
     ·exact U.elim
  |seq x y=>obtain⟨hx,hy⟩:=amR hL;refine yu (oF (D m0 Λ x hx M o f hM j T H _ Q a w ν h s u) λe R B C=>aay C λT' G p N v A=>D m0 Λ y hy M o f hM j T' G d Q R B p N v A)
  |cond c x y=>
   obtain⟨hx,hy⟩:=amO hL;simp only[a0]at h;split at h
   ·rename_i q hq
    have hv:a.eval c=.bool q:=by
     have:=lK (T:=T) (a:=a) (ν:=ν) (z:=c) λt _=>s.tmps t
     rw[hq]at this;simpa only[VR]using this
    refine wp_cond hv ?_;rcases kT h with⟨rfl,h⟩|⟨rfl,h⟩
    ·rw[Jj hq]at h
     exact D m0 Λ x hx M o f hM j T H d Q a w ν h s u
    ·rw[Jj hq]at h
     exact D m0 Λ y hy M o f hM j T H d Q a w ν h s u
   ·exact h.elim
  |block id b=>
   obtain⟨L,hs⟩:=amN hL;simp only[a0]at h;split at h
   ·rename_i S hΛ
    exact hs S hΛ M o f hM j T H d Q a w ν h s u
   ·exact wp_block (oF (D m0 Λ b L M o f hM j T H _ Q a w ν h s u) λe R B C=>art C)
  |loop b=>
   have L:=amP hL;simp only[a0]at h;refine oE n ?_;have key:∀(m:O)(T:E AV)(H:E AB)(a:a8)(w:ψ)(ν:Nu),(iter (a0 P Γ n Λ b) m T H d).ok Q->SR M o f T H a w ν->a.defers=[]->RR P b (post M o f d Q) m a w:=by
    intro m;induction m with
    |zero=>intro T H a w ν h;exact h.elim
    |succ m ihm=>intro T H a w ν h s u;rw[oD];exact oF (D m0 Λ b L M o f hM j T H _ Q a w ν h s u) λe R B C=>aay C λT' G p N v A=>ihm T' G R B p N v A
   exact key n T H a w ν h s u
  |scope b=>have L:=amQ hL;simp only[a0]at h;exact wp_scope_straight (oF (D m0 Λ b L M o f hM j T H d Q a w ν h s u) λe R B C=>aru C)
  |exit id=>exact wp_exit (r (.exit id) h)
  |ret=>exact wp_ret (r .ret h)
  |_=>simp only[a0]at h;exact h.elim
def ad(P:bS)(Γ:aG)(Λ:O->χ Sum)(n:O)(fn:cb)(avs:E AV)(H:E AB)(a:AV->E AB->am):am:=
 match fn.body with
 |some c=>qQ (avs++eH (fn.ntmps-avs.length) (.v aZ)) λT=>a0 P Γ n Λ c T H (pV P fn a)
 |none=>.err
def UU{Γ:aG}(m:aK P Γ)(j:P.follows .mixedOrders=ε)(l:Enters P){Λ:O->χ Sum}{fn:cb}{vals:E τ}{M:O->Prop}{o:AV->E AB->am}(r:P.funcs[I]?=γ fn)(s:∀c,fn.body=γ c->dk P S.length Λ c)(hM:∀k,X.heap.size<=k->M k)(h:(ad P Γ Λ i fn G S o).ok Q)(t:aB R G vals)(u:RH M R (λb=>S.getD b .gone) X)(g:∀a b,R a=γ b->a<S.length):aM P I vals.toArray X λe w'=>∃v p H' d,e=.returned v/\(o p H').ok Q/\VR d p v/\RH M d (λb=>H'.getD b .gone) w'/\Fr M X w'/\Le R d/\∀a b,d a=γ b->a<H'.length:=by
 unfold ad at h;split at h
 ·rename_i c q
  rw[uv]at h;exact FP r q (oF (sq m j l i S.length Λ c (s c q) M X R hM g _ S (pV P fn o) Q _ X R h (rF t u g) rfl) λe y w' x=>M5 x)
 ·exact h.elim
def K:O->χ Sum:=λ_=>ζ
def cN(P:bS)(m0:O)(c:bc):dk P m0 K c:=λ_ _ h=>by cases h
def dR:AV->E AB->am:=λv _=>.out .ret [v] []
abbrev rv(x:τ):am:=.out .ret [.v x] []
abbrev rt(xs:E AV):am:=.out .ret [.af xs] []
abbrev ra(xs:E AV):am:=.out .ret [.agg xs] []
def oI(x:τ):Ex->E AV->E AB->Prop:=λ_ l _=>∃a,l=[a]/\a.iH=γ x
def aW(a:E τ->χ (τ×E ξ)):Spec:=λb _ _=>match AV.nf b with
 |some c=>(a c).map λx=>{val:=.v x.1,aw:=x.2}
 |none=>ζ
def Ue(w:ψ)(x:τ)(e:Ending)(w':ψ):Prop:=e=.returned x/\Fr (λ_=>jy) w w'
def n4{a:E τ->χ (τ×E ξ)}(q:∀args w,(g_ I args).run P w=.ok (.enter I args) w)(h:∀vs x ob,a vs=γ (x,ob)->aJ ob=ε->∀w,a4 (λk=>w.heap.size<=k) w->aM P I vs.toArray w (Ue w x)):ak P I (aW a):=by
 refine⟨q,λr H o A s p w c t u _ _ _ _ v=>?_⟩;unfold aW at c;split at c
 ·rename_i vs g
  simp only[dL]at c;obtain⟨⟨x,ob⟩,y,rfl⟩:=c;have e:=pK g u;subst e;refine(h _ _ _ y t w (v.mono λk _ l=>.inl l)).mono ?_;rintro e B ⟨rfl,d⟩;refine⟨x,s,rfl,Le.refl _,λi h z=>aR h z,by simp only[VR],by intro i b m;simp[eW]at m,by intro j b m;simp at m,d.os,d.tape,d.output,d.size,λk l _=>d.block k l λI=>I,by intro j b n;simp at n,by intro j C b D _ n;simp at n⟩
 ·cases c
def U0{Γ:aG}(l:aK P Γ)(d:P.follows .mixedOrders=ε)(g:Enters P){fn:cb}(p:P.funcs[I]?=γ fn){vs:E τ}{x:τ}(h:(ad P Γ K i fn (vs.map .v) [] dR).ok (oI x))(w:ψ)(q:a4 (λk=>w.heap.size<=k) w):aM P I vs.toArray w (Ue w x):=by have r:RH (λk=>w.heap.size<=k) (λ_=>ζ) (λb=>([]:E AB).getD b .gone) w:=⟨λa=>trivial,λa j b B _ h=>by simp[AB.wr]at h,λa b h=>by simp[AB.wr]at h,(λa b h=>by cases h),q⟩;refine(UU l d g p (λc _=>cN P _ c) (M:=λk=>w.heap.size<=k) (λk m=>m) h (aB.wU vs) r (λa b h=>by cases h)).mono ?_;rintro e C ⟨v,D,G,s,rfl,⟨t,o,u⟩,y,_,z,_⟩;simp only[mE,aj]at o;subst o;exact⟨by rw[jd u y],z.mono λk m A=>by omega⟩
def ext(Γ:aG)(f:dm)(S:Spec):aG:=λg=>cond (Ψ g f) (γ S) (Γ g)
def az{Γ:aG}{S:Spec}(h:aK P Γ)(c:ak P I S):aK P (ext Γ I S):=by
 intro g d a;unfold ext at a;cases b:Ψ g I with
 |true=>rw[b]at a;cases a;rw[cA b];exact c
 |false=>rw[b]at a;exact h g d a
mutual
def ms(b:E O):AV->χ AV
 | .v x=>γ (.v x)
 | .ptr i w j k=>(b.idxOf? i).map λi=>.ptr i w j k
 | .sl i w j k l c=>(b.idxOf? i).map λi=>.sl i w j k l c
 | .own i l=>(b.idxOf? i).map λi=>.own i l
 | .agg d=>(ld b d).map .agg
 | .af d=>(ld b d).map .af
 | .fn f d=>(ld b d).map (.fn f)
 | .err q=>γ (.err q)
 | .dead=>γ .dead
def ld(b:E O):E AV->χ (E AV)
 |[]=>γ []
 |a::e=>match ms b a,ld b e with
  |some x,γ g=>γ (x::g)
  |_,_=>ζ
end
def kI(a:E O):AB->χ AB
 | .cells c t=>(ld a c).map λc=>.cells c t
 |b=>γ b
def xj(a:E O)(H:E AB):E O->χ (E AB)
 |[]=>γ []
 |i::l=>match kI a (H.getD i .gone),xj a H l with
  |some x,γ b=>γ (x::b)
  |_,_=>ζ
mutual
def alG:AV->E O
 | .ptr i _ _ _=>[i]
 | .sl i _ _ _ _ _=>[i]
 | .own i _=>[i]
 | .agg b=>oV b
 | .af b=>oV b
 | .fn _ b=>oV b
 |_=>[]
def oV:E AV->E O
 |[]=>[]
 |a::c=>alG a++oV c
end
def XV:AB->E O
 | .cells a _=>oV a
 |_=>[]
def reach(H:E AB):O->E O->E O->E O
 |0,a,_=>a
 |_+1,a,[]=>a
 |f+1,a,i::r=>cond (a.elem i) (reach H f a r) (reach H f (a++[i]) (r++XV (H.getD i .gone)))
def eJ(live:E O):O->E AV->E AV
 |_,[]=>[]
 |i,a::b=>cond (live.elem i) a .dead::eJ live (i+1) b
def j0:E O->ξ
 |[]=>ε
 |i::l=> !l.elem i&&j0 l
def pj:O->O->E O
 |_,0=>[]
 |i,n+1=>i::pj (i+1) n
def jE(m:O)(T:E AV)(H:E AB):E O:=reach H 400 (pj 0 m) (oV T++(H.take m).flatMap XV)
def n8(live:E O)(m:O)(T:E AV)(H:E AB):χ (E AV×E AB):=
 match ld (jE m (eJ live 0 T) H) (eJ live 0 T),xj (jE m (eJ live 0 T) H) H (jE m (eJ live 0 T) H)with
 |some a,γ b=>cond (j0 (jE m (eJ live 0 T) H)&&(jE m (eJ live 0 T) H).take m==pj 0 m) (γ (a,b)) ζ
 |_,_=>ζ
def i6(a:E O)(ν:Nu):Nu:=λj=>match a[j]?with|some i=>ν i|none=>ζ
def If:∀{b:E O}{i j:O},b.idxOf? i=γ j->b[j]?=γ i
 |[],i,j,h=>by simp at h
 |a::l,i,j,h=>by
  rw[List.idxOf?_cons]at h;split at h
  ·rename_i e
   cases h;simp at e;simp[e]
  ·simp only[dL]at h
   obtain⟨k,c,rfl⟩:=h;simpa using If c
mutual
theorem VR.rA{f:E O}{ν:Nu}:∀{a i:AV}{y:τ},ms f a=γ i->VR ν a y->VR (i6 f ν) i y
 | .v _,i,_,d,e=>by simp only[ms,aC]at d;subst d;simpa only[VR]using e
 | .ptr ..,i,_,d,e=>by simp only[ms,dL]at d;obtain⟨q,j,rfl⟩:=d;simp only[VR]at e⊢;obtain⟨b,g,h⟩:=e;exact⟨b,by simp[i6,If j,g],h⟩
 | .sl ..,i,_,d,e=>by simp only[ms,dL]at d;obtain⟨q,j,rfl⟩:=d;simp only[VR]at e⊢;obtain⟨p,c,g,h,r,s⟩:=e;exact⟨p,c,g,h,r,λt=>let⟨b,u,v⟩:=s t;⟨b,by simp[i6,If j,u],v⟩⟩
 | .own ..,i,_,d,e=>by simp only[ms,dL]at d;obtain⟨q,j,rfl⟩:=d;simp only[VR]at e⊢;obtain⟨b,g,h⟩:=e;exact⟨b,by simp[i6,If j,g],h⟩
 | .agg o,i,_,d,e=>by simp only[ms,dL]at d;obtain⟨q,j,rfl⟩:=d;simp only[VR]at e⊢;obtain⟨l,g,h⟩:=e;exact⟨l,g,aB.rA j h⟩
 | .af o,i,_,d,e=>by simp only[ms,dL]at d;obtain⟨q,j,rfl⟩:=d;simp only[VR]at e⊢;obtain⟨l,g,h⟩:=e;exact⟨l,g,aB.rA j h⟩
 | .fn _ o,i,_,d,e=>by simp only[ms,dL]at d;obtain⟨q,j,rfl⟩:=d;simp only[VR]at e⊢;obtain⟨l,g,h⟩:=e;exact⟨l,g,aB.rA j h⟩
 | .err _,i,_,d,e=>by simp only[ms,aC]at d;subst d;simpa only[VR]using e
 | .dead,i,_,d,_=>by simp only[ms,aC]at d;subst d;simp only[VR]
theorem aB.rA{f:E O}{ν:Nu}:∀{n k:E AV}{m:E τ},ld f n=γ k->aB ν n m->aB (i6 f ν) k m
 |[],k,m,d,e=>by
  simp only[ld,aC]at d;subst d;cases m with
  |nil=>simp only[aB]
  |cons=>simp only[aB]at e
 |a::n,k,m,d,e=>by
  cases m with
  |nil=>simp only[aB]at e
  |cons y m=>
   simp only[aB]at e;simp only[ld]at d;split at d
   ·rename_i x w g h
    cases d;simp only[aB];exact⟨VR.rA g e.1,aB.rA h e.2⟩
   ·cases d
end
def DO(live:E O):∀(T:E AV)(i t:O),(eJ live i T).getD t .dead=if live.elem (i+t)then T.getD t .dead else .dead
 |[],i,t=>by simp[eJ]
 |a::b,i,0=>by simp only[eJ,Bn,im];cases live.elem i<;>rfl
 |a::b,i,t+1=>by simp only[eJ,J4];rw[DO live b (i+1) t,show i+1+t=i+(t+1) by omega]
def DP(live:E O):∀(T:E AV)(i:O),(eJ live i T).length=T.length
 |[],_=>rfl
 |a::b,i=>by simp[eJ,DP live b]
def P_{b:E O}:∀{l c:E AV},ld b l=γ c->∀t,ms b (l.getD t .dead)=γ (c.getD t .dead)
 |[],c,h,t=>by simp only[ld,aC]at h;subst h;simp[ms]
 |a::f,c,h,t=>by
  simp only[ld]at h;split at h
  ·rename_i x g d e
   cases h;cases t with
   |zero=>simpa using d
   |succ t=>simpa using P_ e t
  ·cases h
def El{b:E O}:∀{l c:E AV},ld b l=γ c->c.length=l.length
 |[],c,h=>by simp only[ld,aC]at h;subst h;rfl
 |a::e,c,h=>by
  simp only[ld]at h;split at h
  ·rename_i x f g d
   cases h;simp[El d]
  ·cases h
def P'{c:E O}{H:E AB}:∀{l:E O}{d:E AB},xj c H l=γ d->d.length=l.length/\∀(t i:O),l[t]?=γ i->∃b,d[t]?=γ b/\kI c (H.getD i .gone)=γ b
 |[],d,h=>by simp only[xj,aC]at h;subst h;exact⟨rfl,λt i h=>by simp at h⟩
 |a::m,d,h=>by
  simp only[xj]at h;split at h
  ·rename_i x n f g
   cases h;obtain⟨j,k⟩:=P' g;refine⟨by simp[j],λt i e=>?_⟩;cases t with
   |zero=>simp at e;subst e;exact⟨x,rfl,f⟩
   |succ t=>simpa using k t i (by simpa using e)
  ·cases h
def IH:∀{l:E O},j0 l=ε->∀(i j x:O),l[i]?=γ x->l[j]?=γ x->i=j
 |[],_,i,j,x,h,_=>by simp at h
 |a::l,h,i,j,x,c,d=>by
  simp only[j0,aP,g8]at h;have b:∀k:O,l[k]?=γ a->jy:=λk f=>by have:a∈l:=kj f;have e:=h.1;simp at e;exact e this
  cases i with
  |zero=>
   simp at c;subst c;cases j with
   |zero=>rfl
   |succ j=>exact(b j (by simpa using d)).elim
  |succ i=>
   cases j with
   |zero=>simp at d;subst d;exact(b i (by simpa using c)).elim
   |succ j=>rw[IH h.2 i j x (by simpa using c) (by simpa using d)]
def acx:∀(n i k:O),k<n->(pj i n)[k]?=γ (i+k)
 |0,i,k,h=>by omega
 |n+1,i,0,_=>by simp[pj]
 |n+1,i,k+1,h=>by
  simp only[pj,vq];rw[acx n (i+1) k (by omega)]
  congr 1
  omega
def n9{live:E O}{T T':E AV}{H H':E AB}{a:a8}{w:ψ}{ν:Nu}(h:n8 live i T H=γ (T',H'))(v:SR B X R T H a w ν)(h0:∀c b,R c=γ b->c<i):SR B X R T' H' a w (i6 (jE i (eJ live 0 T) H) ν):=by
 unfold n8 at h;generalize jE i (eJ live 0 T) H=d at*;split at h
 ·rename_i T1 L m hH
  cases I:(j0 d&&d.take i==pj 0 i)with
  |false=>rw[I]at h;cases h
  |true=>
   rw[I]at h;simp only[a6,aC,cI]at h;obtain⟨rfl,rfl⟩:=h;simp only[aP]at I;obtain⟨N,z⟩:=I;have z:d.take i=pj 0 i:=by simpa using z
   obtain⟨M,hg⟩:=P' hH;have p:∀{j b},i6 d ν j=γ b->∃c,d[j]?=γ c/\ν c=γ b:=by
    intro j b f;unfold i6 at f;split at f
    ·rename_i c o;exact⟨c,o,f⟩
    ·cases f
   have r:∀{j c},d[j]?=γ c->kI d (H.getD c .gone)=γ (L.getD j .gone):=by
    intro j c o;obtain⟨b,s,x⟩:=hg j c o;have e:L.getD j .gone=b:=by simp[cX,s]
    rw[e];exact x
   have k:∀{b D:AB},kI d b=γ D->D.wr=b.wr/\D.live=b.live:=by
    intro b D f;cases b with
    |cells cs t=>simp only[kI,dL]at f;obtain⟨q,_,rfl⟩:=f;exact⟨rfl,rfl⟩
    |row=>simp only[kI,aC]at f;subst f;exact⟨rfl,rfl⟩
    |gone=>simp only[kI,aC]at f;subst f;exact⟨rfl,rfl⟩
   refine⟨λt=>?_,⟨λj=>?_,?_,?_,?_,v.heap.eL⟩,v.fr,λj b f=>?_,by rw[El m,DP];exact v.len,λc b f=>?_⟩
   ·have u:=P_ m t
    rw[DO]at u;split at u
    ·exact(v.tmps t).rA u
    ·simp only[ms,aC]at u
     rw[<-u];simp only[VR]
   ·cases G:d[j]?with
    |none=>
     have:L.getD j .gone=.gone:=by
      rw[cX,nk]
      ·rfl
      ·rw[M]
       exact azg.1 G
     simp only[this];trivial
    |some c=>
     have f:=v.heap.br c;have y:=r G;have A:i6 d ν j=ν c:=by simp[i6,G]
     cases o:H.getD c .gone with
     |cells cs t=>rw[o]at y f;simp only[kI,dL]at y;obtain⟨cs',u,h2⟩:=y;rw[<-h2];obtain⟨b,l,s,x,P,e4⟩:=f;exact⟨b,l,by rw[A];exact s,x,P,e4.rA u⟩
     |row rw' n wd g t=>
      rw[o]at y f;simp only[kI,aC]at y;rw[<-y];rcases f with⟨s,x,P⟩|⟨b,l,t',fz,s,x⟩
      ·exact .inl ⟨s,x,by rw[A];exact P⟩
      ·exact .inr ⟨b,l,t',fz,by rw[A];exact s,x⟩
     |gone=>rw[o]at y;simp only[kI,aC]at y;rw[<-y];trivial
   ·intro c j b D Q S U f W
    obtain⟨C,o,s⟩:=p f;obtain⟨j',G,x⟩:=p W;refine v.heap.sep C j' b D (λe=>Q (IH N c j C o (e▸G))) ?_ ?_ s x
    ·rw[<-(k (r o)).1];exact S
    ·rw[<-(k (r G)).2];exact U
   ·intro c b S f
    obtain⟨C,o,s⟩:=p f;exact v.heap.own C b (by rw[<-(k (r o)).1];exact S) s
   ·intro c b f
    obtain⟨C,o,s⟩:=p f;exact v.heap.lt C b s
   ·obtain⟨C,o,s⟩:=p f
    rw[M];exact(fY.1 o).1
   ·have o:=h0 c b f
    have:d[c]?=γ c:=by have u:=acx i 0 c o;rw[<-z,nl,aU o,bH]at u;exact u
    simp[i6,this,v.le c b f]
 ·cases h
def ab:AB->AB->Prop
 | .row rw n w g t,a=>∃c d,a=.row rw c w d t/\c<=n/\∀j,j<c->g j=d j
 |b,a=>b=a
def ab.refl(b:AB):ab b b:=by
 cases b with
 |row rw n w g t=>exact⟨n,g,rfl,aQ _,λ_ _=>rfl⟩
 |_=>rfl
def ab.row{rw:ξ}{n w:O}{g a:O->E τ}{t:ae}(h:∀j,j<n->g j=a j):ab (.row rw n w g t) (.row rw n w a t):=⟨n,a,rfl,aQ _,h⟩
def ab.cut{rw:ξ}{n a w:O}{g b:O->E τ}{t:ae}(c:a<=n)(h:∀j,j<a->g j=b j):ab (.row rw n w g t) (.row rw a w b t):=⟨a,b,rfl,c,h⟩
def ab.br{b a:AB}(h:ab b a)(c:BR R i b X):BR R i a X:=by
 cases b with
 |row rw n u g t=>
  obtain⟨v,x,rfl,y,d⟩:=h;rcases c with⟨e,z,f⟩|⟨b,l,k,m,o,p,q,A,r⟩
  ·exact .inl ⟨e,by omega,f⟩
  ·exact .inr ⟨b,l,k,m,o,p,q,by omega,λj s=>by rw[<-d j s];exact r j (by omega)⟩
 |cells=>cases h;exact c
 |gone=>cases h;trivial
def ab.marks{b a:AB}(h:ab b a):a.wr=b.wr/\a.live=b.live:=by
 cases b with
 |row rw n c g t=>obtain⟨d,e,rfl,_,_⟩:=h;exact⟨rfl,rfl⟩
 |cells=>cases h;exact⟨rfl,rfl⟩
 |gone=>cases h;exact⟨rfl,rfl⟩
inductive Φ:E AB->E AB->Prop
 |nil:Φ [] []
 |cons {b b' H H'}:ab b b'->Φ H H'->Φ (b::H) (b'::H')
def Φ.refl:∀H:E AB,Φ H H
 |[]=>.nil
 |b::H=>.cons (ab.refl b) (Φ.refl H)
def Φ.length:∀{H H':E AB},Φ H H'->H.length=H'.length
 |_,_,.nil=>rfl
 |_,_,.cons _ h=>by simp[h.length]
def Φ.get:∀{H H':E AB},Φ H H'->∀i,ab (H.getD i .gone) (H'.getD i .gone)
 |_,_,.nil,i=>by simp[ab]
 |_,_,.cons h _,0=>by simpa using h
 |_,_,.cons _ h,i+1=>by simpa using h.get i
def RH.iB{H H':E AB}(h:RH B R (λb=>H.getD b .gone) X)(s:Φ H H'):RH B R (λb=>H'.getD b .gone) X:=
 ⟨λi=>(s.get i).br (h.br i),λi j b d a c e=>h.sep i j b d a (by rw[<-(s.get i).marks.1];exact c) (by rw[<-(s.get j).marks.2];exact e),λi b c=>h.own i b (by rw[<-(s.get i).marks.1];exact c),h.lt,h.eL⟩
def SR.iB{M:O->Prop}{d:ψ}{c:Nu}{T:E AV}{H H':E AB}{a:a8}{w:ψ}{ν:Nu}(h:SR M d c T H a w ν)(s:Φ H H'):SR M d c T H' a w ν:=
 ⟨h.tmps,h.heap.iB s,h.fr,λi b e=>by rw[<-s.length];exact h.cg i b e,h.len,h.le⟩
def eV(lv:Ex->E O)(m:O):dx:=λe T H=>match n8 (lv e) m T H with
 |some p=>.out e p.1 p.2
 |none=>.err
def ar:O->O->E (O×AV)->E AV
 |_,0,_=>[]
 |i,n+1,[]=>.dead::ar (i+1) n []
 |i,n+1,p::r=>bif Ψ i p.1 then p.2::ar (i+1) n r else .dead::ar (i+1) n (p::r)
def lW:E O->ξ
 |[]=>ε
 |[_]=>ε
 |a::b::r=>ω a b&&lW (b::r)
def Y7{l b:E O}:∀(T:E AV)(i:O),(∀k,i<=k->l.elem k=b.elem k)->eJ l i T=eJ b i T
 |[],_,_=>rfl
 |a::c,i,h=>by simp only[eJ,h i (aQ i),Y7 c (i+1) λk d=>h k (by omega)]
def aaR:∀{a:O}{r:E O},lW (a::r)=ε->lW r=ε/\∀j∈r,a<j
 |a,[],_=>⟨rfl,λ_ h=>by cases h⟩
 |a,b::r,h=>by
  simp only[lW,aP,bM]at h;refine⟨h.2,λj c=>?_⟩;rcases dE.1 c with rfl|c
  ·exact h.1
  ·exact Nat.lt_trans h.1 ((aaR h.2).2 j c)
def DQ:∀(T:E AV)(i:O)(l:E O),lW l=ε->(∀j∈l,i<=j)->eJ l i T=ar i T.length (l.map λj=>(j,T.getD (j-i) .dead))
 |[],i,l,_,_=>by cases l<;>rfl
 |a::f,i,[],_,_=>by have:=DQ f (i+1) [] rfl (λ_ h=>by cases h);simp only[kQ]at this;simp only[eJ,bZ,ar,kQ,this];rfl
 |a::f,i,j::r,n,o=>by
  obtain⟨p,b⟩:=aaR n;have q:=o j (by simp);by_cases e:i=j
  ·subst e
   have s:eJ (i::r) (i+1) f=eJ r (i+1) f:=Y7 f (i+1) λk c=>by
    have:(k==i)=η:=by simp;omega
    rw[List.elem_cons,this]
   have g:=DQ f (i+1) r p (λk c=>b k c);simp only[eJ,s,g,bZ,ar,eG,mG,a6,Fz,Bn];have t:(i::r).elem i=ε:=by simp
   rw[t]
   congr 2
   refine ye λk c=>?_
   have:=b k c;obtain⟨d,rfl⟩:∃d,k=i+1+d:=⟨k-(i+1),by omega⟩;rw[show i+1+d-(i+1)=d by omega,show i+1+d-i=d+1 by omega,J4]
  ·have u:(j::r).elem i=η:=by rw[List.elem_eq_contains];simp only[List.contains_eq_mem,qy,dE,vH];refine⟨e,λv=>?_⟩;have:=b i v;omega
   have g:=DQ f (i+1) (j::r) n (λk c=>by
    rcases dE.1 c with rfl|c
    ·omega
    ·have:=b k c;omega)
   have m:Ψ i j=η:=by
    cases m:Ψ i j with
    |false=>rfl
    |true=>exact(e (cA m)).elim
   simp only[eJ,u,be,bZ,ar,eG,m,g,cX]
   congr 2
   congr 1
   ·rw[show j-i=(j-(i+1))+1 by omega,vq]
   ·refine ye λk c=>?_
    have:=b k c;rw[show k-i=(k-(i+1))+1 by omega,vq]
def Rv(m:O)(T:E AV)(H:E AB):χ (E AV×E AB):=
 match ld (jE m T H) T,xj (jE m T H) H (jE m T H)with
 |some a,γ b=>cond (j0 (jE m T H)&&(jE m T H).take m==pj 0 m) (γ (a,b)) ζ
 |_,_=>ζ
def ayx{l:E O}(h:lW l=ε){N m:O}(a:G.length=N):n8 l m G S=Rv m (ar 0 N (l.map λj=>(j,G.getD j .dead))) S:=by subst a;have:=DQ G 0 l h (λ_ _=>ej _);simp only[Bu]at this;unfold n8 Rv;rw[this]
def avm{Γ:aG}(D:aK P Γ)(v:P.follows .mixedOrders=ε)(x:Enters P){id n m m0:O}{c:bc}{S:Sum}{lv:Ex->E O}(hm:m0<=m)(h:∀T H (d:dx) Q,(S T H d).ok Q->∃(σ:Type)(I:σ->E AV×E AB)(Inv:σ->Prop)(y:σ->O)(s0:σ)(Λ:σ->O->χ Sum),Inv s0/\(∃H1,n8 (lv .normal) m T H=γ ((I s0).1,H1)/\Φ H1 (I s0).2)/\∀s,Inv s->dk P m0 (Λ s) c/\(a0 P Γ n (Λ s) c (I s).1 (I s).2 (eV lv m)).ok λe T' H'=>match e with
    | .normal=>∃u,Inv u/\T'=(I u).1/\Φ H' (I u).2/\y u<y s
    | .exit j=>∃f,Φ H' f/\if j=id then(d .normal T' f).ok Q else(d (.exit j) T' f).ok Q
    | .ret=>∃f,Φ H' f/\(d .ret T' f).ok Q):ck P m0 (.block id (.loop c)) S:=by
 intro M G o hM z T H d Q a w A hS L N;obtain⟨σ,I,Inv,y,s0,Λ,i0,⟨H1,hw,B⟩,l⟩:=h T H d Q hS;have C:∀i b,o i=γ b->i<m:=λi b hb=>eN (z i b hb) hm
 have R:∀(r:O)(s:σ)(a:a8)(w:ψ)(A:Nu),Inv s->y s<r->SR M G o (I s).1 (I s).2 a w A->a.defers=[]->RR P c (pr id (post M G o d Q)) r a w:=by
  intro r;induction r with
  |zero=>intro s a w A _ U;omega
  |succ r ih=>
   intro s a w A hi U L N;rw[oD];refine oF (sq D v x n m0 (Λ s) c (l s hi).1 M G o hM z _ _ _ _ a w A (l s hi).2 L N) λe a' w' hp=>?_
   obtain⟨e',T',H',ν',rfl,g,W,q⟩:=hp;unfold eV at g;split at g
   ·rename_i p X
    have t:=n9 X W C;cases e' with
    |normal=>obtain⟨u,i',he,k,hmu⟩:=g;exact ih u a' w' _ i' (by omega) (by rw[<-he];exact t.iB k) q
    |exit j=>
     simp only[Ex.to,e9.then,pr];obtain⟨f,k,g⟩:=g;split
     ·rename_i hj
      rw[aU hj]at g;exact⟨.normal,_,_,_,rfl,g,t.iB k,q⟩
     ·rename_i hj
      rw[bI hj]at g;exact⟨.exit j,_,_,_,rfl,g,t.iB k,q⟩
    |ret=>obtain⟨f,k,g⟩:=g;exact⟨.ret,_,_,_,rfl,g,t.iB k,q⟩
   ·exact g.elim
 have hR0:=(n9 hw L C).iB B;exact wp_block (oE (y s0+1) (R _ s0 a w _ i0 (fA _) hR0 N))
def avl{Γ:aG}(k:aK P Γ)(d:P.follows .mixedOrders=ε)(f:Enters P){id n m m0:O}{c:bc}{S:Sum}{lv:Ex->E O}{Λ:O->χ Sum}(l:dk P m0 Λ c)(o:m0<=m)(h:∀T H (a:dx) Q,(S T H a).ok Q->∃(σ:Type)(I:σ->E AV×E AB)(Inv:σ->Prop)(g:σ->O)(s0:σ),Inv s0/\(∃H1,n8 (lv .normal) m T H=γ ((I s0).1,H1)/\Φ H1 (I s0).2)/\∀s,Inv s->(a0 P Γ n Λ c (I s).1 (I s).2 (eV lv m)).ok λe T' H'=>match e with
  | .normal=>∃i,Inv i/\T'=(I i).1/\Φ H' (I i).2/\g i<g s
  | .exit j=>∃b,Φ H' b/\if j=id then(a .normal T' b).ok Q else(a (.exit j) T' b).ok Q
  | .ret=>∃b,Φ H' b/\(a .ret T' b).ok Q):ck P m0 (.block id (.loop c)) S:=by
 refine avm k d f (n:=n) (lv:=lv) o λT H a Q p=>?_
 obtain⟨σ,I,Inv,g,s0,q,r,t⟩:=h T H a Q p;exact⟨σ,I,Inv,g,s0,λ_=>Λ,q,r,λs u=>⟨l,t s u⟩⟩
def ag(m:O):AV->E AB->am:=λa H=>match n8 [0] m [a] H with
 |some p=>.out .ret p.1 p.2
 |none=>.err
def nz{Γ:aG}(r:aK P Γ)(l:P.follows .mixedOrders=ε)(m:Enters P){Λ:O->χ Sum}{n:O}{fn:cb}{H:E AB}{ν:Nu}{vals:E τ}{Q:Ex->E AV->E AB->Prop}{M:O->Prop}(B:P.funcs[I]?=γ fn)(C:∀c,fn.body=γ c->dk P H.length Λ c)(hM:∀k,X.heap.size<=k->M k)(h:(ad P Γ Λ n fn G H (ag H.length)).ok Q)(D:aB ν G vals)(L:RH M ν (λb=>H.getD b .gone) X)(d:∀i b,ν i=γ b->i<H.length):aM P I vals.toArray X λe w'=>∃v g H' a,e=.returned v/\Q .ret [g] H'/\VR a g v/\RH M a (λb=>H'.getD b .gone) w'/\Fr M X w'/\Le ν a/\∀i b,a i=γ b->i<H'.length:=by
 refine(UU r l m B C hM h D L d).mono ?_;rintro e w' ⟨v,g,H',a,rfl,o,N,R,S,T,U⟩;unfold ag at o;split at o
 ·rename_i p y
  have W:SR M X ν [g] H' {tmps:= #[v],defers:=[]} w' a:=by
   refine⟨λt=>?_,R,S,U,by simp,T⟩;cases t with
   |zero=>simpa using N
   |succ t=>simp only[J4,List.getD_nil,VR]
  have j:=n9 y W d;have s:p.1.length=1:=by
   have:=y;unfold n8 at this;split at this
   ·rename_i T1 H1 f w
    cases A:(j0 (jE H.length (eJ [0] 0 [g]) H')&&(jE H.length (eJ [0] 0 [g]) H').take H.length==pj 0 H.length)with
    |false=>rw[A]at this;cases this
    |true=>rw[A]at this;cases this;have:=El f;simpa[eJ]using this
   ·cases this
  match u:p.1,s with
  |[x],_=>rw[u]at o j;refine⟨v,x,p.2,_,rfl,o,?_,j.heap,j.fr,j.le,j.cg⟩;simpa using j.tmps 0
 ·exact o.elim
inductive Md where
 |val
 |rd (s:O) (t:ae)
 |wr (s:O) (t:ae)
inductive SA where
 |v (x:τ)
 |row (m:O) (g:O->E τ)
 |own (m n:O) (g:O->E τ)
structure SX where
 sa:SA
 ix:χ O
 ob:E ξ
def Jg(H:E AB)(d:Md)(a:AV):χ SX:=
 match d with
 | .val=>a.iH.map λx=>⟨.v x,ζ,[]⟩
 | .rd s _=>(match a with
  | .v (.slice ζ 0 0)=>γ ⟨.row 0 (λ_=>[]),ζ,[]⟩
  |a=>(sn H s a).map λr=>⟨.row r.2.1 r.2.2.1,γ r.1,r.2.2.2⟩)
 | .wr s t=>(match a with
  | .own i m=>(match H.getD i .gone with
   | .row ε n b g c=>if b=s/\c=t then γ ⟨.own m n g,γ i,[Δ m n]⟩else ζ
   |_=>ζ)
  |_=>ζ)
def tf(H:E AB):E Md->E AV->χ (E SX)
 |[],[]=>γ []
 |d::b,a::c=>match Jg H d a,tf H b c with
  |some x,γ e=>γ (x::e)
  |_,_=>ζ
 |_,_=>ζ
def ir:O->E Md->E SA->E AV
 |k,.val::a,.v x::r=>.v x::ir k a r
 |k,.rd s _::a,.row m _::r=>.sl k s 0 0 m ζ::ir (k+1) a r
 |k,.wr _ _::a,.own m _ _::r=>.own k m::ir (k+1) a r
 |_,_,_=>[]
def bO:E Md->E SA->E AB
 | .val::a,.v _::r=>bO a r
 | .rd s t::a,.row m g::r=>.row η m s g t::bO a r
 | .wr s t::a,.own _ n g::r=>.row ε n s g t::bO a r
 |_,_=>[]
def bJ:E Md->E SA->E (O->E τ)->E AB
 | .val::a,.v _::r,b=>bJ a r b
 | .rd s t::a,.row m g::r,b=>.row η m s g t::bJ a r b
 | .wr s t::a,.own m n g::r,p::b=>.row ε n s (λj=>bif ω j m then p j else g j) t::bJ a r b
 |_,_,_=>[]
def er:E Md->E SX->E (χ O)
 | .val::a,_::r=>er a r
 | .rd _ _::a,x::r=>x.ix::er a r
 | .wr _ _::a,x::r=>x.ix::er a r
 |_,_=>[]
def fS:E (χ O)->E AB->E (O×AB)
 |some i::a,.row ε n s g t::b=>(i,.row ε n s g t)::fS a b
 |_::a,_::b=>fS a b
 |_,_=>[]
def oT:E Md->ξ
 |[]=>η
 | .wr _ _::_=>ε
 |_::a=>oT a
structure FR where
 val:AV
 new:E AB:=[]
 put:E (O->E τ):=[]
 aw:E ξ:=[]
mutual
def lY(d:O):AV->χ AV
 | .v x=>γ (.v x)
 | .own i l=>γ (.own (d+i) l)
 | .sl i w j k l c=>γ (.sl (d+i) w j k l c)
 | .af b=>(xt d b).map .af
 | .agg b=>(xt d b).map .agg
 | .err q=>γ (.err q)
 |_=>ζ
def xt(d:O):E AV->χ (E AV)
 |[]=>γ []
 |a::e=>match lY d a,xt d e with
  |some x,γ f=>γ (x::f)
  |_,_=>ζ
end
def lP:AB->ξ
 | .row ε _ _ _ _=>ε
 |_=>η
def ai(mds:E Md)(a:E SA->χ FR):Spec:=λe H d=>
 match tf H mds e with
 |some b=>match a (b.map (·.sa))with
  |some c=>match lY d c.val with
   |some f=>cond ((!oT mds||j0 ((er mds b).filterMap id))&&c.new.all lP&&Ψ (bJ mds (b.map (·.sa)) c.put).length (bO mds (b.map (·.sa))).length)
    (γ {val:=f,rd:=(er mds b).filterMap id,put:=fS (er mds b) (bJ mds (b.map (·.sa)) c.put),new:=c.new,aw:=b.flatMap (·.ob)++c.aw}) ζ
   |none=>ζ
  |none=>ζ
 |none=>ζ
def dX(a:E AB)(b:FR):Ex->E AV->E AB->Prop:=λ_ l d=>∃c,lY a.length b.val=γ c/\l=[c]/\Φ d (a++b.new)
mutual
theorem VR.shift{d e:O}{ν j:Nu}(h:∀q b,ν (d+q)=γ b->j (e+q)=γ b):∀{a x y:AV}{v:τ},lY d a=γ x->lY e a=γ y->VR ν x v->VR j y v
 | .v _,_,_,_,f,g,i=>by simp only[lY,aC]at f g;subst f g;simpa only[VR]using i
 | .own _ _,_,_,_,f,g,i=>by simp only[lY,aC]at f g;subst f g;simp only[VR]at i⊢;obtain⟨b,k,m⟩:=i;exact⟨b,h _ _ k,m⟩
 | .af w,_,_,_,f,g,i=>by simp only[lY,dL]at f g;obtain⟨o,f,rfl⟩:=f;obtain⟨r,g,rfl⟩:=g;simp only[VR]at i⊢;obtain⟨l,k,m⟩:=i;exact⟨l,k,aB.shift h f g m⟩
 | .agg w,_,_,_,f,g,i=>by simp only[lY,dL]at f g;obtain⟨o,f,rfl⟩:=f;obtain⟨r,g,rfl⟩:=g;simp only[VR]at i⊢;obtain⟨l,k,m⟩:=i;exact⟨l,k,aB.shift h f g m⟩
 | .ptr ..,_,_,_,f,_,_=>by simp[lY]at f
 | .sl ..,_,_,_,f,g,i=>by simp only[lY,aC]at f g;subst f g;simp only[VR]at i⊢;obtain⟨p,c,k,m,z,A⟩:=i;exact⟨p,c,k,m,z,λB=>let⟨b,s,t⟩:=A B;⟨b,h _ _ s,t⟩⟩
 | .fn ..,_,_,_,f,_,_=>by simp[lY]at f
 | .err _,_,_,_,f,g,i=>by simp only[lY,aC]at f g;subst f g;simpa only[VR]using i
 | .dead,_,_,_,f,_,_=>by simp[lY]at f
theorem aB.shift{d e:O}{ν j:Nu}(h:∀q b,ν (d+q)=γ b->j (e+q)=γ b):∀{u o r:E AV}{n:E τ},xt d u=γ o->xt e u=γ r->aB ν o n->aB j r n
 |[],_,_,_,f,g,i=>by
  simp only[xt,aC]at f g;subst f g;rename_i n;cases n with
  |nil=>simp only[aB]
  |cons=>simp only[aB]at i
 |a::u,_,_,n,f,g,i=>by
  simp only[xt]at f g;split at f
  ·rename_i x o C D
   cases f;split at g
   ·rename_i y r s t
    cases g;cases n with
    |nil=>simp only[aB]at i
    |cons v n=>simp only[aB]at i⊢;exact⟨VR.shift h C s i.1,aB.shift h D t i.2⟩
   ·cases g
  ·cases f
end
def aiH{x:AV}{r:O×O× (O->E τ)×E ξ}(h:sn S i x=γ r):(S.getD r.1 .gone).live=ε:=by
 unfold sn at h;split at h
 ·split at h
  ·rename_i a
   split at h
   ·cases h;simp only[a];rfl
   ·cases h
  ·cases h
 ·split at h
  ·rename_i a
   split at h
   ·cases h;simp only[a];rfl
   ·cases h
  ·cases h
 ·cases h
def aiI{H:E AB}{s:O}{x:AV}{i m:O}{g:O->E τ}{ob:E ξ}{ν:Nu}{w:ψ}{y:τ}(h:sn H s x=γ (i,m,g,ob))(D:aJ ob=ε)(G:VR ν x y)(I:BR ν i (H.getD i .gone) w)(t:ae):∃o:χ Bk,(∀(a:Nu)(k:O),a k=o->VR a (.sl k s 0 0 m ζ) y/\BR a k (.row η m s g t) w)/\∀b,o=γ b->∃f,ν i=γ f/\f.n=b.n/\b.n<w.heap.size:=by
 have r:∀(p:χ cM)(c:O),y=.slice p m c->m<=c->(c=0\/∃(f:Bk)(v:O)(l:E τ)(A:ae)(B:O×O),ν i=γ f/\p=γ ⟨f.n,v,ζ⟩/\w.heap[f.n]?=γ (.cells l.toArray A B)/\∀q,q<m->((g q).length=s/\∀x∈g q,x.oneCell'=ε)/\∀k,k<s->l[v+(q*s+k)]?=(g q)[k]?)->
   ∃o:χ Bk,(∀(a:Nu)(k:O),a k=o->VR a (.sl k s 0 0 m ζ) y/\BR a k (.row η m s g t) w)/\∀b,o=γ b->∃f,ν i=γ f/\f.n=b.n/\b.n<w.heap.size:=by
  rintro p c rfl z (rfl|⟨f,v,l,A,B,d,rfl,L,M⟩)
  ·have W:m=0:=by omega
   subst W;refine⟨ζ,λa k C=>⟨?_,.inl ⟨rfl,rfl,C⟩⟩,λb u=>by cases u⟩;simp only[VR];exact⟨p,0,rfl,by simp,aQ _,λh=>aR h (ol 0)⟩
  ·refine⟨γ ⟨f.n,v,m⟩,λa k C=>⟨?_,.inr ⟨_,l,A,B,C,L,by simp,aQ _,M⟩⟩,λb u=>?_⟩
   ·simp only[VR]
    exact⟨_,c,rfl,by simp,z,λ_=>⟨_,C,by simp⟩⟩
   ·cases u
    exact⟨f,d,rfl,(cC.1 L).1⟩
 unfold sn at h;split at h
 ·rename_i X N
  split at h
  ·rename_i P n wd g' tt Q
   split at h
   ·rename_i e
    subst e;simp only[aC,cI]at h;obtain⟨rfl,rfl,rfl,rfl⟩:=h;simp only[VR]at G;obtain⟨b,u,rfl⟩:=G;rw[Q]at I;rcases I with⟨_,_,d⟩|⟨b',l,A,B,d,R,L,M,S⟩
    ·rw[u]at d;cases d
    rw[u]at d;cases d;have T:N<=n:=by simp only[aJ,gA,kh,jb,id]at D;exact qt D
    exact r _ _ rfl (by omega) (.inr ⟨b,b.o,l,A,B,u,rfl,R,λq hq=>S q (by omega)⟩)
   ·cases h
  ·cases h
 ·rename_i X w' j k N cap
  split at h
  ·rename_i P n wd g' tt Q
   split at h
   ·rename_i e
    obtain⟨rfl,rfl,rfl⟩:=e;simp only[aC,cI]at h;obtain⟨rfl,rfl,rfl,rfl⟩:=h;simp only[VR]at G;obtain⟨p,c,rfl,hc,z,hp⟩:=G;have T:j+N<=n:=by simp only[aJ,gA,kh,jb,id]at D;exact qt D
    rcases qs c with U|U
    ·exact r _ _ rfl z (.inl U)
    ·obtain⟨b,u,rfl⟩:=hp U
     rw[Q]at I;rcases I with⟨_,h00,d⟩|⟨b',l,A,B,d,R,L,M,S⟩
     ·rw[u]at d;cases d
     rw[u]at d;cases d;refine r _ _ rfl z (.inr ⟨b,_,l,A,B,u,rfl,R,λq hq=>?_⟩);obtain⟨f1,f2⟩:=S (j+q) (by omega);refine⟨f1,λk C=>?_⟩;rw[<-f2 k C,fZ]
     congr 1
     omega
   ·cases h
  ·cases h
 ·cases h
structure aeJ (H:E AB) (ν:Nu) (w:ψ) (mds:E Md) (xs:E SX) (sas:E SA) (vals:E τ) (L:E (χ Bk)):Prop where
 len:L.length=(bO mds sas).length
 OR:(er mds xs).length=L.length
 all:∀(k:O)(νc:Nu),(∀j,j<L.length->νc (k+j)=(L[j]?).join)->aB νc (ir k mds sas) vals/\∀(j:O) b,(bO mds sas)[j]?=γ b->BR νc (k+j) b w
 back:∀(j:O) b,L[j]?=γ (γ b)->∃i b0,(er mds xs)[j]?=γ (γ i)/\ν i=γ b0/\b0.n=b.n/\b.n<w.heap.size/\(H.getD i .gone).live=ε/\(∀c,(bO mds sas)[j]?=γ c->c.wr=ε->b=b0/\(H.getD i .gone).wr=ε)
def Gl{H:E AB}{ν:Nu}{w:ψ}:∀{mds:E Md}{avs:E AV}{xs:E SX}{vals:E τ},tf H mds avs=γ xs->aJ (xs.flatMap (·.ob))=ε->aB ν avs vals->(∀i∈ (er mds xs).filterMap id,BR ν i (H.getD i .gone) w)->(∀i b,ν i=γ b->b.n<w.heap.size)->∃L,aeJ H ν w mds xs (xs.map (·.sa)) vals L
 |[],[],xs,vals,h,_,u,_,_=>by
  simp only[tf,aC]at h;subst h;cases vals with
  |nil=>exact⟨[],rfl,rfl,λk f _=>⟨by simp only[ir,aB],λj b p=>by simp[bO]at p⟩,λj b p=>by simp at p⟩
  |cons=>simp only[aB]at u
 |d::ds,a::β,xs,vals,h,ho,u,N,C=>by
  simp only[tf]at h;split at h
  ·rename_i x W q X
   cases h;cases vals with
   |nil=>simp only[aB]at u
   |cons y ys=>
   simp only[aB]at u;have D:aJ x.ob=ε/\aJ (W.flatMap (·.ob))=ε:=by simpa[aJ,gM]using ho
   cases d with
   |val=>
    obtain⟨L,r⟩:=Gl (w:=w) X D.2 u.2 (λi hi=>N i (by simpa[er]using hi)) C;simp only[Jg,dL]at q;obtain⟨z,hz,rfl⟩:=q;refine⟨L,by simpa[bO]using r.len,by simpa[er]using r.OR,λk f G=>?_,λj b p=>?_⟩
    ·obtain⟨P,Q⟩:=r.all k f G
     refine⟨?_,λj b p=>Q j b (by simpa[bO]using p)⟩;simp only[eG,ir,aB,VR];exact⟨jd hz u.1,P⟩
    ·simpa[er,bO]using r.back j b p
   |rd s t=>
    obtain⟨L,r⟩:=Gl (w:=w) X D.2 u.2 (λi hi=>N i (by simp only[er,adT];cases x.ix<;>simp_all)) C;have key:∃m g,x.sa=.row m g/\∃o:χ Bk,(∀(f:Nu)(k:O),f k=o->VR f (.sl k s 0 0 m ζ) y/\BR f k (.row η m s g t) w)/\∀b,o=γ b->∃i I,x.ix=γ i/\ν i=γ I/\I.n=b.n/\b.n<w.heap.size/\(H.getD i .gone).live=ε:=by
     simp only[Jg]at q;split at q
     ·cases q
      simp only[VR]at u;refine⟨0,λ_=>[],rfl,ζ,λf k G=>⟨?_,.inl ⟨rfl,rfl,G⟩⟩,λb p=>by cases p⟩;simp only[VR];exact⟨ζ,0,u.1,by simp,aQ _,λh=>aR h (ol 0)⟩
     ·simp only[dL]at q
      obtain⟨⟨i,m,g,ob⟩,he,rfl⟩:=q;obtain⟨o,U,e2⟩:=aiI he D.1 u.1 (N i (by simp[er])) t;exact⟨m,g,rfl,o,U,λb p=>let⟨I,M,R,f3⟩:=e2 b p;⟨i,I,rfl,M,R,f3,aiH he⟩⟩
    obtain⟨m,g,v,o,U,e2⟩:=key;refine⟨o::L,by simp[bO,v,r.len],by simp[er,r.OR],λk f G=>?_,λj b p=>?_⟩
    ·have A:f k=o:=by simpa using G 0 (by simp)
     obtain⟨P,Q⟩:=r.all (k+1) f (λj hj=>by
      have:=G (j+1) (by simpa using hj)
      rwa [show k+(j+1)=k+1+j by omega,vq]at this)
     refine⟨?_,λj b p=>?_⟩
     ·simp only[eG,v,ir,aB]
      exact⟨(U f k A).1,P⟩
     ·simp only[eG,v,bO]at p
      cases j with
      |zero=>simp at p;subst p;exact(U f k A).2
      |succ j=>
       have:=Q j b (by simpa using p)
       rwa [show k+1+j=k+(j+1) by omega]at this
    ·cases j with
     |zero=>simp only[kO,aC]at p;obtain⟨i,I,M,R,f3,f4,f5⟩:=e2 b p;refine⟨i,I,by simp[er,M],R,f3,f4,f5,λc B hw=>?_⟩;simp only[eG,v,bO,kO,aC]at B;subst B;simp[AB.wr]at hw
     |succ j=>have:=r.back j b (by simpa using p);simpa[er,v,bO]using this
   |wr s t=>
    obtain⟨L,r⟩:=Gl (w:=w) X D.2 u.2 (λi hi=>N i (by simp only[er,adT];cases x.ix<;>simp_all)) C;simp only[Jg]at q;split at q
    ·rename_i i m
     split at q
     ·rename_i n wd g ty hH
      split at q
      ·rename_i e
       obtain⟨rfl,rfl⟩:=e;cases q;have S:=u.1;simp only[VR]at S;obtain⟨b,p,rfl⟩:=S;have T:=N i (by simp[er]);rw[hH]at T;rcases T with⟨h00,_,_⟩|⟨b',l,t',fz,M,R⟩
       ·cases h00
       rw[p]at M;cases M;refine⟨γ b::L,by simp[bO,r.len],by simp[er,r.OR],λk f G=>?_,λj c B=>?_⟩
       ·have A:f k=γ b:=by simpa using G 0 (by simp)
        obtain⟨P,Q⟩:=r.all (k+1) f (λj hj=>by
         have:=G (j+1) (by simpa using hj)
         rwa [show k+(j+1)=k+1+j by omega,vq]at this)
        refine⟨?_,λj c B=>?_⟩
        ·simp only[eG,ir,aB,VR]
         exact⟨⟨b,A,rfl⟩,P⟩
        ·simp only[eG,bO]at B
         cases j with
         |zero=>simp at B;subst B;exact .inr ⟨b,l,t',fz,A,R⟩
         |succ j=>
          have:=Q j c (by simpa using B)
          rwa [show k+1+j=k+(j+1) by omega]at this
       ·cases j with
        |zero=>simp only[kO,aC]at B;subst B;exact⟨i,b,by simp[er],p,rfl,C i b p,by rw[hH];rfl,λc _ _=>⟨rfl,by rw[hH];rfl⟩⟩
        |succ j=>have:=r.back j c (by simpa using B);simpa[er,bO]using this
      ·cases q
     ·cases q
    ·cases q
  ·cases h
 |[],_::_,_,_,h,_,_,_,_=>by simp[tf]at h
 |_::_,[],_,_,h,_,_,_,_=>by simp[tf]at h
def yQ:∀{mds:E Md}{sas:E SA}{ps:E (O->E τ)}{j:O}{b c:AB},(bO mds sas)[j]?=γ b->(bJ mds sas ps)[j]?=γ c->c.wr=b.wr/\c.live=ε/\b.live=ε
 |[],sas,ps,j,b,c,h,_=>by cases sas<;>simp[bO]at h
 | .val::d,[],ps,j,b,c,h,_=>by simp[bO]at h
 | .rd _ _::d,[],ps,j,b,c,h,_=>by simp[bO]at h
 | .wr _ _::d,[],ps,j,b,c,h,_=>by simp[bO]at h
 | .val::d,.v _::r,ps,j,b,c,h,a=>by simp only[bO,bJ]at h a;exact yQ h a
 | .val::d,.row _ _::r,ps,j,b,c,h,a=>by simp[bO]at h
 | .val::d,.own _ _ _::r,ps,j,b,c,h,a=>by simp[bO]at h
 | .rd _ _::d,.v _::r,ps,j,b,c,h,a=>by simp[bO]at h
 | .rd _ _::d,.own _ _ _::r,ps,j,b,c,h,a=>by simp[bO]at h
 | .wr _ _::d,.v _::r,ps,j,b,c,h,a=>by simp[bO]at h
 | .wr _ _::d,.row _ _::r,ps,j,b,c,h,a=>by simp[bO]at h
 | .rd s t::d,.row m g::r,ps,j,b,c,h,a=>by
  simp only[bO,bJ]at h a;cases j with
  |zero=>simp at h a;subst h a;exact⟨rfl,rfl,rfl⟩
  |succ j=>exact yQ (j:=j) (by simpa using h) (by simpa using a)
 | .wr s t::d,.own m n g::r,[],j,b,c,h,a=>by simp[bJ]at a
 | .wr s t::d,.own m n g::r,p::ps,j,b,c,h,a=>by
  simp only[bO,bJ]at h a;cases j with
  |zero=>simp at h a;subst h a;exact⟨rfl,rfl,rfl⟩
  |succ j=>exact yQ (j:=j) (by simpa using h) (by simpa using a)
def Ak:∀{is:E (χ O)}{bs:E AB}{i:O}{c:AB},(i,c)∈fS is bs->∃j:O,is[j]?=γ (γ i)/\bs[j]?=γ c/\c.wr=ε
 |[],bs,i,c,h=>by cases bs<;>simp[fS]at h
 |none::is,[],i,c,h=>by simp[fS]at h
 |some _::is,[],i,c,h=>by simp[fS]at h
 |none::is,b::bs,i,c,h=>by simp only[fS]at h;obtain⟨j,a,d,e⟩:=Ak h;exact⟨j+1,by simpa using a,by simpa using d,e⟩
 |some q::is,b::bs,i,c,h=>by
  cases b with
  |row rw n s g t=>
   cases rw with
   |true=>
    simp only[fS,dE]at h;rcases h with h|h
    ·cases h
     exact⟨0,rfl,rfl,rfl⟩
    ·obtain⟨j,a,d,e⟩:=Ak h
     exact⟨j+1,by simpa using a,by simpa using d,e⟩
   |false=>simp only[fS]at h;obtain⟨j,a,d,e⟩:=Ak h;exact⟨j+1,by simpa using a,by simpa using d,e⟩
  |cells=>simp only[fS]at h;obtain⟨j,a,d,e⟩:=Ak h;exact⟨j+1,by simpa using a,by simpa using d,e⟩
  |gone=>simp only[fS]at h;obtain⟨j,a,d,e⟩:=Ak h;exact⟨j+1,by simpa using a,by simpa using d,e⟩
def I4:∀{is:E (χ O)}{bs:E AB}{j i:O}{n s:O}{g:O->E τ}{t:ae},is[j]?=γ (γ i)->bs[j]?=γ (.row ε n s g t)->(i,.row ε n s g t)∈fS is bs
 |[],bs,j,i,n,s,g,t,h,_=>by simp at h
 |x::is,[],j,i,n,s,g,t,_,h=>by simp at h
 |x::is,b::bs,0,i,n,s,g,t,h,c=>by simp at h c;subst h c;simp[fS]
 |x::is,b::bs,j+1,i,n,s,g,t,h,c=>by
  have a:=I4 (is:=is) (bs:=bs) (j:=j) (by simpa using h) (by simpa using c);cases x with
  |none=>simpa[fS]using a
  |some q=>
   cases b with
   |row rw=>
    cases rw with
    |true=>simp only[fS,dE];exact .inr a
    |false=>simpa[fS]using a
   |cells=>simpa[fS]using a
   |gone=>simpa[fS]using a
def aj5{l:E (χ O)}{j i:O}(h:l[j]?=γ (γ i)):i∈l.filterMap id:=List.mem_filterMap.2 ⟨γ i,kj h,rfl⟩
def M4:∀{l:E (χ O)},j0 (l.filterMap id)=ε->∀(j b i:O),l[j]?=γ (γ i)->l[b]?=γ (γ i)->j=b
 |[],_,j,_,_,h,_=>by simp at h
 |none::l,h,j,b,i,d,e=>by
  cases j with
  |zero=>simp at d
  |succ j=>
   cases b with
   |zero=>simp at e
   |succ b=>rw[M4 (l:=l) (by simpa using h) j b i (by simpa using d) (by simpa using e)]
 |some a::l,h,j,b,i,d,e=>by
  simp only[adT,id,j0,aP,g8]at h;have c:∀k:O,l[k]?=γ (γ a)->jy:=λk f=>by have d:=h.1;simp at d;exact d (kj f)
  cases j with
  |zero=>
   simp at d;subst d;cases b with
   |zero=>rfl
   |succ b=>exact(c b (by simpa using e)).elim
  |succ j=>
   cases b with
   |zero=>simp at e;subst e;exact(c j (by simpa using d)).elim
   |succ b=>rw[M4 (l:=l) h.2 j b i (by simpa using d) (by simpa using e)]
def NW:∀{mds:E Md}{sas:E SA}{j:O}{b:AB},(bO mds sas)[j]?=γ b->b.wr=ε->oT mds=ε
 |[],sas,j,b,h,_=>by cases sas<;>simp[bO]at h
 | .wr _ _::a,_,j,b,_,_=>rfl
 | .val::a,[],j,b,h,_=>by simp[bO]at h
 | .rd _ _::a,[],j,b,h,_=>by simp[bO]at h
 | .val::a,.v _::r,j,b,h,c=>by simp only[bO]at h;exact NW (mds:=a) h c
 | .val::a,.row _ _::r,j,b,h,c=>by simp[bO]at h
 | .val::a,.own _ _ _::r,j,b,h,c=>by simp[bO]at h
 | .rd _ _::a,.v _::r,j,b,h,c=>by simp[bO]at h
 | .rd _ _::a,.own _ _ _::r,j,b,h,c=>by simp[bO]at h
 | .rd s t::a,.row m g::r,j,b,h,c=>by
  simp only[bO]at h;cases j with
  |zero=>simp at h;subst h;simp[AB.wr]at c
  |succ j=>exact NW (mds:=a) (j:=j) (by simpa using h) c
def Un:∀{mds:E Md}{sas:E SA}{ps:E (O->E τ)}{j:O}{cs:E AV}{t:ae},(bJ mds sas ps)[j]?=γ (.cells cs t)->jy:=by
 intro mds;induction mds with
 |nil=>intro sas ps j cs t h;cases sas<;>simp[bJ]at h
 |cons d b a=>
  intro sas ps j cs t h;cases d<;>cases sas with
  |nil=>simp[bJ]at h
  |cons x r=>
   cases x<;>first
    |(simp[bJ]at h;done)
    |(simp only[bJ]at h;exact a h)
    |(simp only[bJ]at h;cases j with
      |zero=>simp at h
      |succ j=>exact a (by simpa using h))
    |(cases ps with
      |nil=>simp[bJ]at h
      |cons p ps=>
       simp only[bJ]at h;cases j with
       |zero=>simp at h
       |succ j=>exact a (by simpa using h))
def jR(Q:Ex->E AV->E AB->Prop)(M:O->Prop)(ν:Nu)(w:ψ):Ending->ψ->Prop:=
 λe d=>∃v f c a,e=.returned v/\Q .ret [f] c/\VR a f v/\RH M a (λb=>c.getD b .gone) d/\Fr M w d/\Le ν a/\∀i b,a i=γ b->i<c.length
def nc(hent:Enters P){fn:cb}{mds:E Md}{a:E SA->χ FR}(hf:P.funcs[I]?=γ fn)(x:fn.body.isSome=ε)(h:∀sas u,a sas=γ u->aJ u.aw=ε->∃H0,Φ (bO mds sas) H0/\∀(M:O->Prop)(vals:E τ)(w:ψ)(ν:Nu),(∀k,w.heap.size<=k->M k)->aB ν (ir 0 mds sas) vals->RH M ν (λb=>H0.getD b .gone) w->(∀i b,ν i=γ b->i<H0.length)->aM P I vals.toArray w (jR (dX (bJ mds sas u.put) u) M ν w)):ak P I (ai mds a):=by
 refine⟨λargs w=>hent I fn hf x args w,λavs H y δ ν vals w hS ho hv hr hlt hfree hsep htab=>?_⟩;unfold ai at hS;split at hS
 ·rename_i xs hxs
  split at hS
  ·rename_i u hF
   split at hS
   ·rename_i av hav
    cases hc:((!oT mds||j0 ((er mds xs).filterMap id))&&u.new.all lP&&Ψ (bJ mds (xs.map (·.sa)) u.put).length (bO mds (xs.map (·.sa))).length)with
    |false=>rw[hc]at hS;cases hS
    |true=>
     rw[hc]at hS;simp only[a6,aC]at hS;subst hS;simp only[aP]at hc;obtain⟨⟨hc1,hc2⟩,hc3⟩:=hc;have B:=cA hc3;have ho':aJ (xs.flatMap (·.ob))=ε/\aJ u.aw=ε:=by simpa[aJ,gM]using ho
     obtain⟨L,A⟩:=Gl (w:=w) hxs ho'.1 hv hr hlt;generalize xs.map (·.sa)=sas at*;obtain⟨H0,hs0,hcalls⟩:=h sas u hF ho'.2
     --the callee's own numbers
     let p:Nu:=λj=>(L[j]?).join
     have hall:=A.all 0 p (λj _=>by simp[p]);have N:∀j b,p j=γ b->L[j]?=γ (γ b):=by
      intro j b x;simp only[p]at x;cases D:L[j]?with
      |none=>rw[D]at x;cases x
      |some o=>rw[D]at x;simp at x;rw[x]
     have νlt:∀j b,p j=γ b->j<(bO mds sas).length:=λj b x=>by rw[<-A.len];exact(fY.1 (N j b x)).1
     let M:O->Prop:=λk=>w.heap.size<=k\/∃j b c,p j=γ b/\(bO mds sas)[j]?=γ c/\c.wr=ε/\b.n=k
     have W:∀j,(bO mds sas).getD j .gone=((bO mds sas)[j]?).getD .gone:=λj=>by rw[cX]
     have putw:∀(i:O) c,(bO mds sas)[i]?=γ c->c.wr=ε->∃n s g t,(bJ mds sas u.put)[i]?=γ (.row ε n s g t):=by
      intro i c hi Q;have:i<(bJ mds sas u.put).length:=by rw[B];exact(fY.1 hi).1
      obtain⟨cc,d⟩:∃cc,(bJ mds sas u.put)[i]?=γ cc:=⟨_,df this⟩;have hccw:=(yQ hi d).1;rw[Q]at hccw;cases cc with
      |row rw n s g t=>simp[AB.wr]at hccw;subst hccw;exact⟨n,s,g,t,d⟩
      |cells cs t=>exact(Un d).elim
      |gone=>simp[AB.wr]at hccw
     have hsepc:∀i j b b',i≠j->((bO mds sas).getD i .gone).wr=ε->((bO mds sas).getD j .gone).live=ε->p i=γ b->p j=γ b'->b.n≠b'.n:=by
      intro i j b b' hne Q hl hbi X;rw[W]at Q hl;cases hi:(bO mds sas)[i]?with
      |none=>rw[hi]at Q;cases Q
      |some c=>
       rw[hi]at Q;simp only[iK]at Q;cases D:(bO mds sas)[j]?with
       |none=>rw[D]at hl;cases hl
       |some c'=>
        obtain⟨i1,b1,f1,f2,f3,_,_,f5⟩:=A.back i b (N _ _ hbi);obtain⟨j1,b2,g1,g2,g3,_,g4,g5⟩:=A.back j b' (N _ _ X);obtain⟨rfl,hwr⟩:=f5 c hi Q;have hij:i1≠j1:=by rintro rfl;have hw':oT mds=ε:=NW hi Q;rw[hw']at hc1;exact hne (M4 (by simpa using hc1) i j i1 f1 g1)
        rw[<-g3];obtain⟨n',s',g',t',d⟩:=putw i c hi Q;exact hsep i1 _ j1 b b2 (I4 f1 d) (aj5 g1) hij g4 f2 g2
     have hRH:RH M p (λb=>(bO mds sas).getD b .gone) w:=by
      refine⟨λj=>?_,hsepc,?_,?_,htab.mono ?_⟩
      ·simp only[W]
       cases D:(bO mds sas)[j]?with
       |none=>trivial
       |some b=>have:=hall.2 j b D;simpa using this
      ·intro j b Q X
       simp only[W]at Q;cases D:(bO mds sas)[j]?with
       |none=>rw[D]at Q;cases Q
       |some c=>rw[D]at Q;exact .inr ⟨j,b,c,X,D,Q,rfl⟩
      ·intro j b X
       obtain⟨_,_,_,_,_,f4,_⟩:=A.back j b (N _ _ X);exact f4
      ·rintro k _ (hk|⟨j,b,c,X,D,Q,rfl⟩)
       ·exact .inl hk
       ·obtain⟨i1,b1,f1,f2,f3,_,_,f5⟩:=A.back j b (N _ _ X)
        obtain⟨rfl,hwr⟩:=f5 c D Q;obtain⟨n',s',g',t',d⟩:=putw j c D Q;exact .inr ⟨i1,_,_,I4 f1 d,f2,f3.symm⟩
     refine(hcalls M _ w p (λk hk=>.inl hk) hall.1 (hRH.iB hs0) (λj b x=>by rw[<-hs0.length];exact νlt j b x)).mono ?_;rintro e w' ⟨v,av',H',ν',rfl,⟨av2,iP,hl,hsim⟩,hvr,R,hfr,hle,hdm⟩;simp only[mE,aj]at hl;subst hl;have R:=R.iB hsim;rw[B]at iP;have hgetP:∀j,j<(bO mds sas).length->(bJ mds sas u.put++u.new).getD j .gone=((bJ mds sas u.put)[j]?).getD .gone:=λj D=>by rw[cX,kN (by rw[B];exact D)]
     have C:∀q,(bJ mds sas u.put++u.new).getD ((bO mds sas).length+q) .gone=(u.new[q]?).getD .gone:=λq=>by rw[cX,oi (by rw[B];omega),B,Fu]
     --new blocks have numbers of their own,and lie in new memory
     have hnew:∀q b,u.new[q]?=γ b->∃k,ν' ((bO mds sas).length+q)=γ k/\w.heap.size<=k.n/\k.n<w'.heap.size:=by
      intro q b S;have G:lP b=ε:=bT.1 hc2 b (kj S);have hbw:b.wr=ε:=by
       cases b with
       |row rw=>cases rw<;>simp[lP]at G⊢ <;>rfl
       |_=>simp[lP]at G
      have T:=R.br ((bO mds sas).length+q);simp only[C,S,iK]at T;have hk:∃k,ν' ((bO mds sas).length+q)=γ k:=by
       cases b with
       |row rw n s g t=>
        rcases T with⟨r,_,_⟩|⟨k,_,_,_,r,_⟩
        ·subst r;simp[lP]at G
        ·exact⟨k,r⟩
       |_=>simp[lP]at G
      obtain⟨k,hk⟩:=hk;refine⟨k,hk,?_,R.lt _ k hk⟩;have hw2:((λb=>(bJ mds sas u.put++u.new).getD b .gone) ((bO mds sas).length+q)).wr=ε:=by simp only[C,S,iK];exact hbw
      rcases R.own _ k hw2 hk with r|⟨j,b',c,r,h2,h3,h4⟩
      ·exact r
      ·exfalso
       obtain⟨n',s',g',t',d⟩:=putw j c h2 h3;have D:=(fY.1 h2).1;refine R.sep ((bO mds sas).length+q) j k b' (by omega) hw2 ?_ hk (hle _ _ r) h4.symm;simp only[hgetP j D,d,iK];rfl
     let f:Nu:=λi=>match ν i with
      |some b=>γ b
      |none=>if y<=i/\i<y+u.new.length then ν' ((bO mds sas).length+(i-y))else ζ
     have U:Le ν f:=λi b x=>by simp[f,x]
     have m:∀q,q<u.new.length->f (y+q)=ν' ((bO mds sas).length+q):=λq S=>by have h0:=hfree q S;simp only[f,h0];rw[oW,Fu]
     have shift:∀q b,ν' ((bO mds sas).length+q)=γ b->f (y+q)=γ b:=by
      intro q b x;have S:q<u.new.length:=by have r:=hdm _ b x;rw[hsim.length,bN,B]at r;omega
      rw[m q S];exact x
     refine⟨v,f,rfl,U,?_,VR.shift shift iP hav hvr,?_,?_,hfr.os,hfr.tape,hfr.output,hfr.size,?_,?_,?_⟩
     ·intro i h0 r
      simp only[f,h0]at r;by_cases hi:y<=i/\i<y+u.new.length
      ·exact hi
      ·rw[bI hi]at r
       exact aR rfl r
     ·intro i c hc
      obtain⟨j,f1,f2,f3⟩:=Ak (rb hc);have D:j<(bO mds sas).length:=by rw[<-B];exact(fY.1 f2).1
      have T:=R.br j;simp only[hgetP j D,f2,iK]at T;cases c with
      |row rw n s g t=>
       rcases T with⟨r,_,_⟩|⟨k,l,t',fz,r,h2⟩
       ·subst r;simp[AB.wr]at f3
       ·have hLj:∃o,L[j]?=γ o:=⟨_,df (by rw[A.len];exact D)⟩
        obtain⟨o,ho⟩:=hLj;cases o with
        |none=>
         exfalso;obtain⟨cc,d⟩:∃cc,(bO mds sas)[j]?=γ cc:=⟨_,df D⟩;have hbc:=hall.2 j cc d;have hmk:=yQ d f2;have hnone:p (0+j)=ζ:=by simp[p,ho]
         cases cc with
         |row rw'=>
          rcases hbc with⟨h3,_,_⟩|⟨k',_,_,_,h3,_⟩
          ·subst h3
           have:=hmk.1;rw[f3]at this;simp[AB.wr]at this
          ·rw[hnone]at h3;cases h3
         |cells=>obtain⟨k',_,h3,_⟩:=hbc;rw[hnone]at h3;cases h3
         |gone=>have:=hmk.1;rw[f3]at this;simp[AB.wr]at this
        |some b0=>
         have hν0:p j=γ b0:=by simp[p,ho]
         obtain⟨i1,b1,g1,g2,g3,g4,g5,g6⟩:=A.back j b0 ho;rw[f1]at g1;cases g1;obtain⟨cc,d⟩:∃cc,(bO mds sas)[j]?=γ cc:=⟨_,df D⟩;obtain⟨rfl,_⟩:=g6 cc d (by rw[<-(yQ d f2).1];exact f3);rw[hle _ _ hν0]at r;cases r;exact .inr ⟨_,l,t',fz,U _ _ g2,h2⟩
      |cells cs t=>exact(Un f2).elim
      |gone=>simp[AB.wr]at f3
     ·intro q b S
      have hql:q<u.new.length:=(fY.1 S).1;have T:=R.br ((bO mds sas).length+q);simp only[C,S,iK]at T;have G:lP b=ε:=bT.1 hc2 b (kj S);cases b with
      |row rw n s g t=>
       rcases T with⟨r,_,_⟩|⟨k,l,t',fz,r,h2⟩
       ·subst r;simp[lP]at G
       ·exact .inr ⟨k,l,t',fz,by rw[m q hql];exact r,h2⟩
      |_=>simp[lP]at G
     ·intro k hk hne
      refine hfr.block k hk ?_;rintro(r|⟨j,b,c,r,h2,h3,h4⟩)
      ·omega
      ·obtain⟨i1,b1,f1,f2,f3,_,_,f5⟩:=A.back j b (N _ _ r)
       obtain⟨rfl,_⟩:=f5 c h2 h3;obtain⟨n',s',g',t',d⟩:=putw j c h2 h3;exact hne (i1,_) b (I4 f1 d) f2 h4
     ·intro q b S x
      rw[m q S]at x;obtain⟨k,r,h2,h3⟩:=hnew q _ (df S);rw[x]at r;cases r;exact⟨h3,.inl h2⟩
     ·intro q q' b b' hne S hq' x hb'
      rw[m q S]at x;rw[m q' hq']at hb';have G:∀(z:O)(b:AB),u.new[z]?=γ b->b.wr=ε/\b.live=ε:=by
       intro z b hz;have:=bT.1 hc2 b (kj hz);cases b with
       |row rw=>cases rw<;>simp[lP]at this⊢ <;>exact⟨rfl,rfl⟩
       |_=>simp[lP]at this
      refine R.sep ((bO mds sas).length+q) ((bO mds sas).length+q') b b' (by omega) ?_ ?_ x hb'
      ·simp only[C,df S,iK]
       exact(G q _ (df S)).1
      ·simp only[C,df hq',iK]
       exact(G q' _ (df hq')).2
   ·cases hS
  ·cases hS
 ·cases hS
def auh{Γ:aG}(j:aK P Γ)(g:P.follows .mixedOrders=ε)(b:Enters P){fn:cb}{Λ:O->χ Sum}{mds:E Md}{a:E SA->χ FR}(k:P.funcs[I]?=γ fn)(l:fn.body.isSome=ε)(h:∀sas d,a sas=γ d->aJ d.aw=ε->∃e,Φ (bO mds sas) e/\(∀c,fn.body=γ c->dk P e.length Λ c)/\(ad P Γ Λ i fn (ir 0 mds sas) e (ag e.length)).ok (dX (bJ mds sas d.put) d)):ak P I (ai mds a):=
 nc b k l λsas d m o=>let⟨e,p,q,hex⟩:=h sas d m o;⟨e,p,λ_ _ _ _ hM r s t=>nz j g b k q hM hex r s t⟩
def W(n:Z):Z:=IntKind.i64.wrap n
def Gd(x:Z):W x=(x+9223372036854775808)%18446744073709551616-9223372036854775808:=by exact IntKind.wrap_i64 x
def AY(x:Z):∃q,W x=x+18446744073709551616*q:=by refine⟨-((x+9223372036854775808)/18446744073709551616),?_⟩;simp only[Gd];omega
def pk(x q:Z):W (x+18446744073709551616*q)=W x:=by simp only[Gd];omega
def rI(x y:Z):W (W x+y)=W (x+y):=by obtain⟨q,h⟩:=AY x;rw[h,show x+18446744073709551616*q+y=x+y+18446744073709551616*q from by omega,pk]
def rJ(x y:Z):W (x+W y)=W (x+y):=by rw[Int.add_comm,rI,Int.add_comm]
def acC(x y:Z):W (W x-y)=W (x-y):=by obtain⟨q,h⟩:=AY x;rw[h,show x+18446744073709551616*q-y=x-y+18446744073709551616*q from by omega,pk]
def JE(x y:Z):W (x-W y)=W (x-y):=by obtain⟨q,h⟩:=AY y;rw[h,show x-(y+18446744073709551616*q)=x-y+18446744073709551616*(-q)from by omega,pk]
def acB(x:Z):W (-W x)=W (-x):=by have:=JE 0 x;simpa using this
def ayj(x y:Z):W (W x*y)=W (x*y):=by obtain⟨q,h⟩:=AY x;rw[h,Int.add_mul,Int.mul_assoc,pk]
def ayk(x y:Z):W (x*W y)=W (x*y):=by rw[ady,ayj,ady]
def ayi(x y z:Z):W (x+y*W z)=W (x+y*z):=by rw[<-rJ,ayk,rJ]
def Rp(x:Z):W (W x)=W x:=by have:=rI x 0;simpa using this
def fj{x:Z}(a: -9223372036854775808<=x:=by omega)(b:x<=9223372036854775807:=by omega):W x=x:=by simp only[Gd];omega
def n6(x:Z): -9223372036854775808<=W x/\W x<=9223372036854775807:=by simp only[Gd];omega
def rx(a b:ao):O->Z:=λk=>W (a k+b k)
def mA(a:ao)(n:Z)(b:ao):O->Z:=λk=>W (a k+n*b k)
def dy(a b:ao):O->Z
 |0=>a 0*b 0
 |1=>a 0*b 1+a 1*b 0
 |2=>a 0*b 2+a 1*b 1+a 2*b 0
 |3=>a 0*b 3+a 1*b 2+a 2*b 1+a 3*b 0
 |4=>a 0*b 4+a 1*b 3+a 2*b 2+a 3*b 1+a 4*b 0
 |5=>a 0*b 5+a 1*b 4+a 2*b 3+a 3*b 2+a 4*b 1+a 5*b 0
 |6=>a 0*b 6+a 1*b 5+a 2*b 4+a 3*b 3+a 4*b 2+a 5*b 1+a 6*b 0
 |7=>a 0*b 7+a 1*b 6+a 2*b 5+a 3*b 4+a 4*b 3+a 5*b 2+a 6*b 1+a 7*b 0
 |8=>a 1*b 7+a 2*b 6+a 3*b 5+a 4*b 4+a 5*b 3+a 6*b 2+a 7*b 1
 |9=>a 2*b 7+a 3*b 6+a 4*b 5+a 5*b 4+a 6*b 3+a 7*b 2
 |10=>a 3*b 7+a 4*b 6+a 5*b 5+a 6*b 4+a 7*b 3
 |11=>a 4*b 7+a 5*b 6+a 6*b 5+a 7*b 4
 |12=>a 5*b 7+a 6*b 6+a 7*b 5
 |13=>a 6*b 7+a 7*b 6
 |14=>a 7*b 7
 |_=>0
def bw(a b:ao):O->Z
 |0=>dy a b 0-dy a b 8-dy a b 12
 |1=>dy a b 1-dy a b 9-dy a b 13
 |2=>dy a b 2-dy a b 10-dy a b 14
 |3=>dy a b 3-dy a b 11
 |4=>dy a b 4+dy a b 8
 |5=>dy a b 5+dy a b 9
 |6=>dy a b 6+dy a b 10
 |7=>dy a b 7+dy a b 11
 |_=>0
def ez(a b:ao):O->Z:=λk=>W (bw a b k)
def wV(a:ao):O->Z
 |0=>a 0+a 4
 |1=>a 3
 |2=>a 2
 |3=>a 1
 |4=> -a 4
 |5=> -a 3-a 7
 |6=> -a 2-a 6
 |7=> -a 1-a 5
 |_=>0
def jo(a:ao):O->Z:=λk=>W (wV a k)
def Ih(c:ao):O->Z
 |0=>2*c 2+4*c 6
 |1=> -c 1+2*c 3+c 5+c 7
 |2=>2*c 4
 |3=>c 1+c 5+c 7
 |_=>0
def qZ(c:ao):O->Z:=λk=>W (Ih c k)
def fT(a:ao):O->Z
 |0=>W (0-a 7)
 |4=>W (a 3+a 7)
 |k+1=>a k
def fX(a:ao):O->O->Z
 |0=>a
 |n+1=>fT (fX a n)
@[reducible] def xS:O->Z:=λ_=>0
def D9:O->Z
 |0=>1
 |_+1=>0
def b8(t:O):O->Z:=fX D9 t
def Rc(a b:ao):O->O->Z
 |0=>xS
 |k+1=>mA (Rc a b k) (a k) (fX b k)
def Rd(a b:ao):O->Z:=Rc a b 8
def O'(a:ao):O->O->Z
 |0=>xS
 |k+1=>mA (O' a k) (a k) (b8 ((24-k)%24))
def Pa(a:ao):O->Z:=O' a 8
def lM{p:O->Prop}(a:p 0)(b:p 1)(c:p 2)(d:p 3)(e:p 4)(f:p 5)(g:p 6)(h:p 7):∀k,k<8->p k:=by
 intro k i
 match k,i with
 |0,_=>exact a
 |1,_=>exact b
 |2,_=>exact c
 |3,_=>exact d
 |4,_=>exact e
 |5,_=>exact f
 |6,_=>exact g
 |7,_=>exact h
def aks{p:O->Prop}(h:∀j,j<i->p j)(b:p i):∀j,j<i+1->p j:=by
 intro j c;rcases Nat.lt_succ_iff_lt_or_eq.1 c with a|a
 ·exact h j a
 ·subst a;exact b
def akt{p:O->Prop}:∀j,j<0->p j:=λj a=>aR a (dh j)
def avN(a b:ao):∀k,k<8->Rd a b k=ez a b k:=by
 refine lM ?_ ?_ ?_ ?_ ?_ ?_ ?_ ?_<;>
  (simp only[Rd,Rc,fX,mA,fT,xS,ez,bw,dy,rI,rJ,ayi,adF,acB]
   congr 1
   grind)
def atb:b8 0 0=1/\b8 0 1=0/\b8 0 2=0/\b8 0 3=0/\b8 0 4=0/\b8 0 5=0/\b8 0 6=0/\b8 0 7=0:=by decide+kernel
def atc:b8 17 0=0/\b8 17 1=0/\b8 17 2=0/\b8 17 3=0/\b8 17 4=0/\b8 17 5= -1/\b8 17 6=0/\b8 17 7=0:=by decide+kernel
def atd:b8 18 0=0/\b8 18 1=0/\b8 18 2=0/\b8 18 3=0/\b8 18 4=0/\b8 18 5=0/\b8 18 6= -1/\b8 18 7=0:=by decide+kernel
def ate:b8 19 0=0/\b8 19 1=0/\b8 19 2=0/\b8 19 3=0/\b8 19 4=0/\b8 19 5=0/\b8 19 6=0/\b8 19 7= -1:=by decide+kernel
def atg:b8 20 0=1/\b8 20 1=0/\b8 20 2=0/\b8 20 3=0/\b8 20 4= -1/\b8 20 5=0/\b8 20 6=0/\b8 20 7=0:=by decide+kernel
def ath:b8 21 0=0/\b8 21 1=1/\b8 21 2=0/\b8 21 3=0/\b8 21 4=0/\b8 21 5= -1/\b8 21 6=0/\b8 21 7=0:=by decide+kernel
def ati:b8 22 0=0/\b8 22 1=0/\b8 22 2=1/\b8 22 3=0/\b8 22 4=0/\b8 22 5=0/\b8 22 6= -1/\b8 22 7=0:=by decide+kernel
def atj:b8 23 0=0/\b8 23 1=0/\b8 23 2=0/\b8 23 3=1/\b8 23 4=0/\b8 23 5=0/\b8 23 6=0/\b8 23 7= -1:=by decide+kernel
def anX(a:ao):∀k,k<8->Pa a k=jo a k:=by
 refine lM ?_ ?_ ?_ ?_ ?_ ?_ ?_ ?_<;>
  (simp only[Pa,O',Nat.reduceSub,Nat.reduceMod,mA,xS,jo,wV,rI,atb,atc,atd,ate,atg,ath,ati,atj]
   congr 1
   omega)
def GB:O->O->Z
 |0,0=>4
 |1,1=>1
 |1,3=>1
 |2,2=>2
 |3,1=>2
 |4,0=>2
 |5,1=> -1
 |5,3=>1
 |7,1=>1
 |7,3=> -1
 |8,0=> -2
 |9,1=> -2
 |10,2=> -2
 |11,1=> -1
 |11,3=> -1
 |12,0=> -4
 |13,1=> -1
 |13,3=> -1
 |14,2=> -2
 |15,1=> -2
 |16,0=> -2
 |17,1=>1
 |17,3=> -1
 |19,1=> -1
 |19,3=>1
 |20,0=>2
 |21,1=>2
 |22,2=>2
 |23,1=>1
 |23,3=>1
 |_,_=>0
def Ig(a:ao):O->O->Z
 |0=>xS
 |k+1=>λj=>W (Ig a k j+W (a k*GB ((k+18)%24) j))
def We{p:O->Prop}(a:p 0)(b:p 1)(c:p 2)(d:p 3):∀k,k<4->p k:=by
 intro k e
 match k,e with
 |0,_=>exact a
 |1,_=>exact b
 |2,_=>exact c
 |3,_=>exact d
def alH(a:ao):∀j,j<4->Ig a 8 j=qZ a j:=by
 refine We ?_ ?_ ?_ ?_<;>
  (simp only[Ig,Nat.reduceAdd,Nat.reduceMod,GB,xS,qZ,Ih,rI,rJ]
   congr 1
   omega)
def aH(n a b:Z):ξ:=κ (a<=n)&&κ (n<=b)
def cd{n a b:Z}:aH n a b=ε↔a<=n/\n<=b:=by simp[aH]
def qi(a:ao)(b c:Z):ξ:=
 bif !aH (a 0) b c then η else bif !aH (a 1) b c then η else bif !aH (a 2) b c then η else bif !aH (a 3) b c then η else
 bif !aH (a 4) b c then η else bif !aH (a 5) b c then η else bif !aH (a 6) b c then η else bif !aH (a 7) b c then η else ε
variable {h:O->Z}
def xy{f g:Z}:qi h f g=ε↔∀k,k<8->f<=h k/\h k<=g:=by
 constructor
 ·intro d
  have e:∀(b:ξ)(c:ξ),(bif !b then η else c)=ε->b=ε/\c=ε:=by intro b c;cases b<;>simp
  unfold qi at d;obtain⟨i,d⟩:=e _ _ d;obtain⟨j,d⟩:=e _ _ d;obtain⟨l,d⟩:=e _ _ d;obtain⟨m,d⟩:=e _ _ d;obtain⟨n,d⟩:=e _ _ d;obtain⟨o,d⟩:=e _ _ d;obtain⟨p,d⟩:=e _ _ d;obtain⟨q,d⟩:=e _ _ d;exact lM (cd.1 i) (cd.1 j) (cd.1 l) (cd.1 m) (cd.1 n) (cd.1 o) (cd.1 p) (cd.1 q)
 ·intro d
  simp[qi,cd.2 (d 0 (by decide)),cd.2 (d 1 (by decide)),cd.2 (d 2 (by decide)),cd.2 (d 3 (by decide)),cd.2 (d 4 (by decide)),cd.2 (d 5 (by decide)),cd.2 (d 6 (by decide)),cd.2 (d 7 (by decide))]
variable {A:Z}
def aiJ(a: -9223372036854775808<=A)(b:A<=9223372036854775807):(W (A.tmod 24+24)).tmod 24=A%24:=by
 have h:A.tmod 24=A%24\/A.tmod 24=A%24-24:=by
  rcases adx 0 A with h|h
  ·left;exact xX h
  ·have c:A.tmod 24= -((-A)%24):=by rw[<-Int.neg_neg A,Int.neg_tmod,xX (by omega)];simp
   omega
 rw[fj,xX (by omega)];omega
def an0:(bif κ (A.tmod 24<0)then W (A.tmod 24+24)else A.tmod 24)=A%24:=by
 have h:(A.tmod 24=A%24/\0<=A)\/(A.tmod 24= -((-A)%24)/\A<=0):=by
  rcases adx 0 A with h|h
  ·left;exact⟨xX h,h⟩
  ·right
   refine⟨?_,h⟩;rw[<-Int.neg_neg A,Int.neg_tmod,xX (by omega)];simp
 by_cases a:A.tmod 24<0
 ·rw[di a,a6,fj]
  omega
 ·rw[gN a,be]
  omega
def v8(a b c d e f g h:Z):O->Z
 |0=>a
 |1=>b
 |2=>c
 |3=>d
 |4=>e
 |5=>f
 |6=>g
 |7=>h
 |_=>0
abbrev w8(f:ao):O->Z:=v8 (f 0) (f 1) (f 2) (f 3) (f 4) (f 5) (f 6) (f 7)
def v4(a b c d:Z):O->Z
 |0=>a
 |1=>b
 |2=>c
 |3=>d
 |_=>0
end
end Go.Proofs.YtdadmpgfcfkidaaGreatDoor
