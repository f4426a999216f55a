/- Part 1 of the proof of FnExactExecuteCard. -/
import Derived.Test.YtlmbkhplhkdhlaaGreatDoorZm0
import Derived.StillTail
import Derived.RowKit3
import Derived.Lib.SplitLaws
import Derived.Lib.AtoiAll
import Derived.Lib.ItoaNum
import Derived.Lib.Join
import Derived.Shelf.Strconv.Itoa3
import Derived.Shelf.Strings.OnBuilder
set_option maxRecDepth 100000
set_option maxHeartbeats 8000000
set_option linter.defProp false
set_option linter.unusedVariables false
set_option linter.unusedSimpArgs false
open Array renaming mk→bj,setIfInBounds_eq_of_size_le→atq
open _root_ renaming Bool→κ,ByteArray→ρ,False→jc,Int→Z,List→E,Nat→O,Option→χ,UInt8→ψ,absurd→aO,and_true→aa,beq_eq_false_iff_ne→dT,cond_false→a_,cond_true→aZ,decide_eq_false→eJ,decide_eq_true→bA,decide_eq_true_eq→aB,false_imp_iff→H_,if_false→sh,if_neg→bi,if_pos→aP,implies_true→Ib,not_or→ue,of_decide_eq_false→cE,of_decide_eq_true→aL,true_and→bo
open Bool renaming and_eq_true→aM,eq_iff_iff→kk,false_eq_true→r6,not_eq_true→Dl,true_and→dD,false→η,true→ε
open ByteArray renaming extract→Hr,mk→a8,size→aW
open Go.ByteArray renaming mk_append_mk→Zt
open Go renaming Calls→aH,Func→cA,FuncId→bq,Program→aF,TypeId→ae,Value→τ,World→υ
open Classical renaming propDecidable→Hs
open Go.Exit renaming inBlock→oB
open Function renaming comp→Hw
open Go.Shelf renaming Ren→mJ
open Int renaming one_mul→zu,sub_zero→ZM,tdiv_eq_ediv_of_nonneg→HA,tmod_eq_emod_of_nonneg→v_,toNat→a5,toNat_natCast→cY,zero_add→ZN,zero_mul→OY
open Go.IntKind renaming i64→a7,u8→oC,wrap→aj,wrap_u8→Dt
open Go.Lib.NumEnd.ok renaming injEq→ZP
open Go.Lib renaming TabIs→O1,atoiAll→Du,cut→e_,decDigits→gB,decDigits_length→HB,index→Dv,itoa→bc,join→iD,joinTail→lY,join_cons→tR,parseUint10→we,splitK→ZU
open List.Pairwise renaming filter→ZV,nil→wh
open List.Perm renaming refl→HC,swap→ZW
open List renaming all_append→gC,all_eq_true→bX,append_assoc→lZ,append_nil→Dy,cons_append→oD,count_eq_zero→Dz,drop_drop→zx,ext_getElem?→O5,filter_cons_of_neg→O6,filter_cons_of_pos→O7,filter_eq_self→O8,find?_cons→HE,find?_eq_none→wi,find?_range_eq_some→Z2,forall_mem_cons→HF,getD→HG,getD_eq_getElem?_getD→cq,getElem?_append_left→km,getElem?_append_right→pz,getElem?_cons_zero→kn,getElem?_eq_getElem→cV,getElem?_eq_none→l0,getElem?_eq_some_iff→eV,getElem_cons_succ→O',getElem_cons_zero→wj,isPrefixOf→Z5,length→b_,length_append→cv,length_cons→cn,length_filter_le→atO,length_map→cC,length_nil→gm,length_singleton→Z6,map_append→iN,map_cons→eD,mem_cons→dw,mem_cons_of_mem→lB,mem_cons_self→je,mem_map→fX,mem_of_getElem?→g8,mem_singleton→mN,nil_append→mO,not_mem_nil→kq,pairwise_cons→nE,range→dH,range_succ→HK
open List.cons renaming injEq→lA
open Nat renaming add_mul→fN,add_sub_cancel→Pk,add_zero→iu,beq→ai,beq_refl→l5,ble→Θ,ble_eq→aT,blt→Δ,blt_eq→bS,eq_of_beq_eq_true→ci,le_of_not_lt→aai,le_refl→aR,le_trans→cD,lt_irrefl→nF,lt_of_lt_of_le→eE,lt_or_ge→nG,lt_succ_self→ft,mod_lt→r7,mul_le_mul→pD,not_lt_zero→cN,strongRecOn→DL,sub_self→HP,sub_zero→zI,zero_add→bF,zero_le→eF
open Option renaming getD_some→g9,isSome_iff_exists→r9,map_eq_some_iff→dt,none→ζ,some→γ
open Option.some renaming injEq→ar
open Prod.mk renaming injEq→cG
open Go.Region renaming wanted→nK
open Go.Sort renaming grow→HW
open Go.Proofs.Tryz renaming f105→Pu,f124→HX,f129→dd,f139→Px,f140→Py,f164→PC,f167→PD,f168→PE,f48→oK,f65→mP,f67→PJ,f69→PK,f71→PM,f72→PN,f88→PO,f90→PP,f93→PR,f94→PS,f95→PT,f96→PU,func129→pE,func190→aaA,func74→P8,prog→θ
open UInt8 renaming ofNat→mQ,toNat_ofNat'→Qf
open Go.Value renaming func→Qg,slice→dk,string→cZ
open Decidable renaming decide→ο
open Go.Proofs.Tryz
namespace Go.Proofs.YtlmbkhplhkdhlaaGreatDoor
noncomputable section
open Go.RowKit Go.Shelf
def sP:E τ->χ (τ×E κ)
 |[.int .i64 n,.int .i64 l,.int .i64 h]=>γ (.bool (aD n l h),[])
 |_=>ζ
def MS:au θ 134 (aS sP):=by
 refine en (n:=100) bt Tryz.func134 rfl λb x c a d=>?_
 unfold sP at a;split at a
 ·rename_i n l h
  simp only[ar,cG]at a;obtain⟨rfl,rfl⟩:=a;have e:ad θ g0 K 100 f134 ([.int .i64 n,.int .i64 l,.int .i64 h].map .v) [] ed=cond (ο (n>=l)) (rv (.bool (ο (n<=h)))) (rv (.bool η)):=by kernel_rfl
  rw[e];exact sT (by simp only[vp,tg,aD];cases ο (l<=n)<;>rfl)
 ·cases a
def fm:aE:=ext g0 134 (aS sP)
def jz:aK θ fm:=az bt MS
def VX:au θ 109 (aS sP):=by
 refine en (n:=100) jz func109 rfl λb x c a d=>?_
 unfold sP at a;split at a
 ·rename_i n l h
  simp only[ar,cG]at a;obtain⟨rfl,rfl⟩:=a;have e:ad θ fm K 100 f109 ([.int .i64 n,.int .i64 l,.int .i64 h].map .v) [] ed=cond (ο (n>=l)) (rv (.bool (ο (n<=h)))) (rv (.bool η)):=by kernel_rfl
  rw[e];exact sT (by simp only[vp,tg,aD];cases ο (l<=n)<;>rfl)
 ·cases a
def m4:aE:=ext fm 109 (aS sP)
def p0:aK θ m4:=az jz VX
def xr:E τ->χ (τ×E κ)
 |[.agg ⟨[.int .i64 a,.int .i64 b,.int .i64 c,.int .i64 d,.int .i64 e,.int .i64 f,.int .i64 g,.int .i64 h]⟩,.int .i64 m]=>γ (.bool (pn (v8 a b c d e f g h) (W (0-m)) m),[])
 |_=>ζ
def ak6:au θ 210 (aS xr):=by
 refine en (n:=100) p0 func210 rfl λk x l j o=>?_
 unfold xr at j;split at j
 ·rename_i a b c d f g h i m
  simp only[ar,cG]at j;obtain⟨rfl,rfl⟩:=j;have e:ad θ m4 K 100 f210 ([.agg ⟨[.int .i64 a,.int .i64 b,.int .i64 c,.int .i64 d,.int .i64 f,.int .i64 g,.int .i64 h,.int .i64 i]⟩,.int .i64 m].map .v) [] ed=cond (!aD ((v8 a b c d f g h i) 0) (W (0-m)) m) (rv (.bool η)) (cond (!aD ((v8 a b c d f g h i) 1) (W (0-m)) m) (rv (.bool η)) (cond (!aD ((v8 a b c d f g h i) 2) (W (0-m)) m) (rv (.bool η)) (cond (!aD ((v8 a b c d f g h i) 3) (W (0-m)) m) (rv (.bool η)) (cond (!aD ((v8 a b c d f g h i) 4) (W (0-m)) m) (rv (.bool η)) (cond (!aD ((v8 a b c d f g h i) 5) (W (0-m)) m) (rv (.bool η)) (cond (!aD ((v8 a b c d f g h i) 6) (W (0-m)) m) (rv (.bool η)) (cond (!aD ((v8 a b c d f g h i) 7) (W (0-m)) m) (rv (.bool η)) (rv (.bool ε))))))))):=by kernel_rfl
  rw[e];exact sT (by simp only[vp,tg,pn,v8,Al,JT])
 ·cases j
def F7:aE:=ext m4 210 (aS xr)
def Lj:aK θ F7:=az p0 ak6
def Fl:E τ->χ (τ×E κ)
 |[.agg ⟨[.int .i64 a,.int .i64 b,.int .i64 c,.int .i64 d,.int .i64 e,.int .i64 f,.int .i64 g,.int .i64 h]⟩,.agg ⟨[.int .i64 i,.int .i64 j,.int .i64 k,.int .i64 l,.int .i64 m,.int .i64 n,.int .i64 o,.int .i64 p]⟩]=>γ (dn (qp (v8 a b c d e f g h) (v8 i j k l m n o p)),[])
 |_=>ζ
def MP:au θ 192 (aS Fl):=by
 refine en (n:=100) Lj func192 rfl λb x c a d=>?_
 unfold Fl at a;split at a
 ·rename_i e f g h i j k l m o p q r s t u
  simp only[ar,cG]at a;obtain⟨rfl,rfl⟩:=a;exact one (by kernel_rfl)
 ·cases a
def Li:aE:=ext F7 192 (aS Fl)
def TZ:aK θ Li:=az Lj MP
def Fo:E τ->χ (τ×E κ)
 |[.int .i64 n]=>γ (.int .i64 (n%24),[aD n (-9223372036854775808) 9223372036854775807])
 |_=>ζ
def Wb:au θ 205 (aS Fo):=by
 refine en (n:=100) TZ func205 rfl λd x f a c=>?_
 unfold Fo at a;split at a
 ·rename_i n
  simp only[ar,cG]at a;obtain⟨rfl,rfl⟩:=a;have b:=b9.1 (show aD n (-9223372036854775808) 9223372036854775807=ε by simpa[aJ]using c);have e:o4 (ad θ Li K 100 f205 ([.int .i64 n].map .v) [] ed)=γ (ι ((W (n.tmod 24+24)).tmod 24)):=by kernel_rfl
  rw[aeC b.1 b.2]at e;exact one e
 ·cases a
def Ll:aE:=ext Li 205 (aS Fo)
def Uc:aK θ Ll:=az TZ Wb
def Fe:E τ->χ (τ×E κ)
 |[.int .i64 n]=>γ (.int .i64 (n%24),[])
 |_=>ζ
def ML:au θ 165 (aS Fe):=by
 refine en (n:=100) Uc func165 rfl λb x c a d=>?_
 unfold Fe at a;split at a
 ·rename_i n
  simp only[ar,cG]at a;obtain⟨rfl,rfl⟩:=a;have e:ad θ Ll K 100 f165 ([.int .i64 n].map .v) [] ed=cond (ο (n.tmod 24<0)) (rv (ι (W (n.tmod 24+24)))) (rv (ι (n.tmod 24))):=by kernel_rfl
  rw[e];exact sT (by rw[vp,tg,tg,Al,RF,aiQ])
 ·cases a
def TG:aE:=ext Ll 165 (aS Fe)
def TH:aK θ TG:=az Uc ML
def AL:E τ->χ (τ×E κ)
 |[.int .i64 n]=>γ (.bool (aD n 0 23),[])
 |_=>ζ
def MK:au θ 103 (aS AL):=by
 refine en (n:=100) TH func103 rfl λb x c a d=>?_
 unfold AL at a;split at a
 ·rename_i n
  simp only[ar,cG]at a;obtain⟨rfl,rfl⟩:=a;exact one (by kernel_rfl)
 ·cases a
def Lb:aE:=ext TG 103 (aS AL)
def TF:aK θ Lb:=az TH MK
def Fj:E τ->χ (τ×E κ)
 |[.agg ⟨[.int .i64 a,.int .i64 b,.int .i64 c,.int .i64 d,.int .i64 e,.int .i64 f,.int .i64 g,.int .i64 h]⟩]=>γ (dn (jl (v8 a b c d e f g h)),[])
 |_=>ζ
def V0:au θ 138 (aS Fj):=by
 refine en (n:=100) TF func138 rfl λk x l a m=>?_
 unfold Fj at a;split at a
 ·rename_i b c d f g h i j
  simp only[ar,cG]at a;obtain⟨rfl,rfl⟩:=a;have e:o4 (ad θ Lb K 100 f138 ([.agg ⟨[.int .i64 b,.int .i64 c,.int .i64 d,.int .i64 f,.int .i64 g,.int .i64 h,.int .i64 i,.int .i64 j]⟩].map .v) [] ed)=γ (dn (kG (Ml (v8 b c d f g h i j)) 25 17)):=by kernel_rfl
  rw[xd (aiM (v8 b c d f g h i j))]at e;exact one e
 ·cases a
def Lh:aE:=ext Lb 138 (aS Fj)
def TY:aK θ Lh:=az TF V0
def AP:E τ->χ (τ×E κ)
 |[.agg ⟨[.int .i64 a,.int .i64 b,.int .i64 c,.int .i64 d,.int .i64 e,.int .i64 f,.int .i64 g,.int .i64 h]⟩,.agg ⟨[.int .i64 i,.int .i64 j,.int .i64 k,.int .i64 l,.int .i64 m,.int .i64 n,.int .i64 o,.int .i64 p]⟩]=>γ (dn (ep (v8 a b c d e f g h) (v8 i j k l m n o p)),[])
 |_=>ζ
def MR:au θ 200 (aS AP):=by
 refine en (n:=100) TY func200 rfl λt x u a v=>?_
 unfold AP at a;split at a
 ·rename_i b c d f g h i j k l m o p q r s
  simp only[ar,cG]at a;obtain⟨rfl,rfl⟩:=a;have e:o4 (ad θ Lh K 100 f200 ([.agg ⟨[.int .i64 b,.int .i64 c,.int .i64 d,.int .i64 f,.int .i64 g,.int .i64 h,.int .i64 i,.int .i64 j]⟩,.agg ⟨[.int .i64 k,.int .i64 l,.int .i64 m,.int .i64 o,.int .i64 p,.int .i64 q,.int .i64 r,.int .i64 s]⟩].map .v) [] ed)=γ (dn (kG (tP (v8 b c d f g h i j) (v8 k l m o p q r s) 64) 15 7)):=by kernel_rfl
  rw[xd (apK (v8 b c d f g h i j) (v8 k l m o p q r s))]at e;exact one e
 ·cases a
def Lk:aE:=ext Lh 200 (aS AP)
def Ub:aK θ Lk:=az TY MR
def Fh:E τ->χ (τ×E κ)
 |[.agg ⟨[.int .i64 a,.int .i64 b,.int .i64 c,.int .i64 d,.int .i64 e,.int .i64 f,.int .i64 g,.int .i64 h]⟩,.int .i64 n,.agg ⟨[.int .i64 i,.int .i64 j,.int .i64 k,.int .i64 l,.int .i64 m,.int .i64 o,.int .i64 p,.int .i64 q]⟩]=>γ (dn (lW (v8 a b c d e f g h) n (v8 i j k l m o p q)),[])
 |_=>ζ
def MM:au θ 172 (aS Fh):=by
 refine en (n:=100) Ub func172 rfl λv x w a y=>?_
 unfold Fh at a;split at a
 ·rename_i b c d f h i j l n m o p q r s t u
  simp only[ar,cG]at a;obtain⟨rfl,rfl⟩:=a;have e:o4 (ad θ Lk K 100 f172 ([.agg ⟨[.int .i64 b,.int .i64 c,.int .i64 d,.int .i64 f,.int .i64 h,.int .i64 i,.int .i64 j,.int .i64 l]⟩,.int .i64 n,.agg ⟨[.int .i64 m,.int .i64 o,.int .i64 p,.int .i64 q,.int .i64 r,.int .i64 s,.int .i64 t,.int .i64 u]⟩].map .v) [] ed)=γ (dn (λk=>W ((v8 b c d f h i j l) k+W (n*(v8 m o p q r s t u) k)))):=by kernel_rfl
  rw[xd (g:=lW (v8 b c d f h i j l) n (v8 m o p q r s t u)) λk _=>qA _ _]at e;exact one e
 ·cases a
def TK:aE:=ext Lk 172 (aS Fh)
def TL:aK θ TK:=az Ub MM
def Fg:E τ->χ (τ×E κ)
 |[.agg ⟨[.int .i64 a,.int .i64 b,.int .i64 c,.int .i64 d,.int .i64 e,.int .i64 f,.int .i64 g,.int .i64 h]⟩]=>γ (dn (fK (v8 a b c d e f g h)),[])
 |_=>ζ
def VU:au θ 231 (aS Fg):=by
 refine en (n:=100) TL func231 rfl λb x c a d=>?_
 unfold Fg at a;split at a
 ·rename_i e f g h i j k l
  simp only[ar,cG]at a;obtain⟨rfl,rfl⟩:=a;exact one (by kernel_rfl)
 ·cases a
def Lc:aE:=ext TK 231 (aS Fg)
def TJ:aK θ Lc:=az TL VU
def Fi:E τ->χ (τ×E κ)
 |[.agg ⟨[.int .i64 a,.int .i64 b,.int .i64 c,.int .i64 d,.int .i64 e,.int .i64 f,.int .i64 g,.int .i64 h]⟩,.agg ⟨[.int .i64 i,.int .i64 j,.int .i64 k,.int .i64 l,.int .i64 m,.int .i64 n,.int .i64 o,.int .i64 p]⟩]=>γ (dn (ep (v8 a b c d e f g h) (v8 i j k l m n o p)),[])
 |_=>ζ
def VV:au θ 169 (aS Fi):=by
 refine en (n:=100) TJ func169 rfl λt x u a v=>?_
 unfold Fi at a;split at a
 ·rename_i b c d f g h i j k l m o p q r s
  simp only[ar,cG]at a;obtain⟨rfl,rfl⟩:=a;have e:o4 (ad θ Lc K 100 f169 ([.agg ⟨[.int .i64 b,.int .i64 c,.int .i64 d,.int .i64 f,.int .i64 g,.int .i64 h,.int .i64 i,.int .i64 j]⟩,.agg ⟨[.int .i64 k,.int .i64 l,.int .i64 m,.int .i64 o,.int .i64 p,.int .i64 q,.int .i64 r,.int .i64 s]⟩].map .v) [] ed)=γ (dn (Of (v8 b c d f g h i j) (v8 k l m o p q r s))):=by kernel_rfl
  rw[xd (apJ (v8 b c d f g h i j) (v8 k l m o p q r s))]at e;exact one e
 ·cases a
def Ld:aE:=ext Lc 169 (aS Fi)
def TM:aK θ Ld:=az TJ VV
def Ff:E τ->χ (τ×E κ)
 |[.agg ⟨[.int .i64 a,.int .i64 b,.int .i64 c,.int .i64 d,.int .i64 e,.int .i64 f,.int .i64 g,.int .i64 h]⟩]=>γ (dn (jl (v8 a b c d e f g h)),[])
 |_=>ζ
def VT:au θ 163 (aS Ff):=by
 refine en (n:=100) TM func163 rfl λk x l a m=>?_
 unfold Ff at a;split at a
 ·rename_i b c d f g h i j
  simp only[ar,cG]at a;obtain⟨rfl,rfl⟩:=a;have e:o4 (ad θ Ld K 100 f163 ([.agg ⟨[.int .i64 b,.int .i64 c,.int .i64 d,.int .i64 f,.int .i64 g,.int .i64 h,.int .i64 i,.int .i64 j]⟩].map .v) [] ed)=γ (dn (Mn (v8 b c d f g h i j))):=by kernel_rfl
  rw[xd (aiN (v8 b c d f g h i j))]at e;exact one e
 ·cases a
def TI:aE:=ext Ld 163 (aS Ff)
def agu:aK θ TI:=az TM VT
noncomputable def cw(p:Prop):κ:= @ο p (Hs p)
def cg{p:Prop}(h:p):cw p=ε:=by unfold cw;exact @bA p (Hs p) h
def MA{p:Prop}(h:cw p=ε):p:=by unfold cw at h;exact @aL p (Hs p) h
def Hh(live:E O)(m:O)(T:E AV)(H:E AB):χ (E AV×E AB):=
 match mF live m T H with
 |some p=>γ (live.map λi=>p.1.getD i .dead,p.2)
 |none=>ζ
def Y6{live:E O}{m:O}{T:E AV}{H:E AB}{p:E AV×E AB}(h:Hh live m T H=γ p)(k:mB live=ε):mF live m T H=γ (aw 0 T.length (live.zip p.1),p.2):=by
 unfold Hh at h;split at h
 ·rename_i q b
  cases h;rw[b];obtain⟨r,s⟩:=q;simp only[ar,cG,aa];unfold mF at b;split at b
  ·rename_i a u f v
   cases g:(iZ (iI m (ea live 0 T) H)&&(iI m (ea live 0 T) H).take m==np 0 m)with
   |false=>rw[g]at b;cases b
   |true=>
    rw[g]at b;simp only[aZ,ar,cG]at b;obtain⟨rfl,rfl⟩:=b;have l:a.length=T.length:=by rw[yH f,B2]
    have n:∀t,live.elem t=η->a.getD t .dead=.dead:=by intro t c;have:=Na f t;rw[B1,bF,c]at this;simp only[r6,sh,lR,ar]at this;exact this.symm
    have o:ea live 0 a=a:=by
     apply O5;intro t;by_cases c:t<a.length
     ·have i:=B1 live a 0 t
      rw[bF]at i;have j:(ea live 0 a).getD t .dead=a.getD t .dead:=by
       rw[i];split
       ·rfl
       ·rename_i e
        exact(n t (by simpa using e)).symm
      have d:t<(ea live 0 a).length:=by rw[B2];exact c
      simp only[cq,cV c,cV d,g9]at j;rw[cV c,cV d,j]
     ·rw[l0 (by rw[B2];omega),l0 (by omega)]
    have:=B3 a 0 live k λ_ _=>eF _
    rw[o,l]at this;simp only[zI]at this;rw[OD];exact this
  ·cases b
 ·cases h
def cJ(N:O)(lv:Ex->E O)(m:O):dx:=λe T H=>cond (ai T.length N) (match Hh (lv e) m T H with
 |some p=>.out e p.1 p.2
 |none=>.err) .err
noncomputable def bD(N:O)(live:E O)(m:O)(vals:E AV)(b:E AB)(out:dx->ao):Sum:=λT H a=>
 cond (ai T.length N) (match Hh live m T H with
  |some p=>cond (cw (p.1=vals/\ab p.2 b)) (out a) .err
  |none=>.err) .err
def z6{σ:Type}(N id:O)(lv:Ex->E O)(h:σ->E AV)(i:σ->E AB)(d:σ->Prop)(a:dx)(Q:Ex->E AV->E AB->Prop):Ex->E AV->E AB->Prop:=λe c f=>match e with
 | .normal=>∃g,d g/\c=h g/\ab f (i g)
 | .exit j=>∃b,ab f b/\if j=id then(a .normal (aw 0 N ((lv (.exit j)).zip c)) b).ok Q else(a (.exit j) (aw 0 N ((lv (.exit j)).zip c)) b).ok Q
 | .ret=>∃b,ab f b/\(a .ret (aw 0 N ((lv .ret).zip c)) b).ok Q
def Bv{Γ:aE}(R:aK θ Γ){id n m m0 N:O}{c:Code}{lv:Ex->E O}{out:dx->ao}{σ:Type}(G:σ->E AV)(I:σ->E AB)(Inv:σ->Prop)(L:σ->O)(s0:σ)(Λ:σ->O->χ Sum)(hr:∀e,mB (lv e)=ε)(hm:m0<=m)(h0:Inv s0)(h:∀d Q,(out d).ok Q->∀s,Inv s->eK θ m0 (Λ s) c/\aC (a0 θ Γ n (Λ s) c (aw 0 N ((lv .normal).zip (G s))) (I s) (cJ N lv m)) (z6 N id lv G I (λP=>Inv P/\L P<L s) d Q)):cp θ m0 (.block id (.loop c)) (bD N (lv .normal) m (G s0) (I s0) out):=by
 intro M S t hM y T H d Q a w z x U W;unfold bD at x;cases A:ai T.length N with
 |false=>rw[A]at x;exact x.elim
 |true=>
  rw[A,aZ]at x;have A:=ci A;split at x
  ·rename_i p hw
   rcases kZ x with⟨hc,X⟩|⟨_,X⟩
   ·obtain⟨hv,B⟩:=MA hc
    have C:=Y6 hw (hr .normal);rw[A,hv]at C;have D:∀i b,t i=γ b->i<m:=λi b hb=>eE (y i b hb) hm
    have key:∀(r:O)(s:σ)(a:Act)(w:υ)(z:Nu),Inv s->L s<r->SR M S t (aw 0 N ((lv .normal).zip (G s))) (I s) a w z->a.defers=[]->Code.rounds θ c (oB id (post M S t d Q)) r a w:=by
     intro r;induction r with
     |zero=>intro s a w z _ hlt;omega
     |succ r ih=>
      intro s a w z hi hlt U W;rw[rounds_succ];obtain⟨hL,hG⟩:=h d Q X s hi;refine wp_mono (sM R mixed enters n m0 (Λ s) c hL M S t hM y _ _ _ _ a w z hG.out U W) λe a' w' hpp=>?_
      obtain⟨e',T',H',ν',rfl,f,hS',u⟩:=hpp;unfold cJ at f;cases l:ai T'.length N with
      |false=>rw[l]at f;exact f.elim
      |true=>
       rw[l,aZ]at f;have l:=ci l;split at f
       ·rename_i q hwk
        have v:=Y6 hwk (hr e');rw[l]at v;have o:=nt v hS' D;cases e' with
        |normal=>obtain⟨P,⟨i',hmu⟩,he,g⟩:=f;rw[he]at o;exact ih P a' w' _ i' (by omega) (o.ii g) u
        |exit j=>
         simp only[Ex.to,Exit.then,oB];obtain⟨H'',g,k⟩:=f;split
         ·rename_i hj
          rw[aP hj]at k;exact⟨.normal,_,_,_,rfl,k,o.ii g,u⟩
         ·rename_i hj
          rw[bi hj]at k;exact⟨.exit j,_,_,_,rfl,k,o.ii g,u⟩
        |ret=>obtain⟨H'',g,k⟩:=f;exact⟨.ret,_,_,_,rfl,k,o.ii g,u⟩
       ·exact f.elim
    have hR0:=(nt C U D).ii B;exact wp_block (wp_loop_rounds (L s0+1) (key _ s0 a w _ h0 (ft _) hR0 W))
   ·exact X.elim
  ·exact x.elim
def dQ{Γ:aE}(f:aK θ Γ){id n m m0 N:O}{c:Code}{lv:Ex->E O}{out:dx->ao}(b:O->E AV)(d:O->E AB)(qn:O->Prop)(len:O)(Λ:O->O->χ Sum)(q:∀e,mB (lv e)=ε)(r:m0<=m)(s:qn 0)(h:∀a Q,(out a).ok Q->∀i,qn i->i<=len->eK θ m0 (Λ i) c/\aC (a0 θ Γ n (Λ i) c (aw 0 N ((lv .normal).zip (b i))) (d i) (cJ N lv m)) (z6 N id lv b d (λo=>o=i+1/\i<len/\qn (i+1)) a Q)):cp θ m0 (.block id (.loop c)) (bD N (lv .normal) m (b 0) (d 0) out):=by
 refine Bv f (n:=n) b d (λi=>qn i/\i<=len) (λi=>len-i) 0 Λ q r ⟨s,eF _⟩ λa Q t i p=>?_
 obtain⟨u,v⟩:=h a Q t i p.1 p.2;refine⟨u,⟨CB (λe y z g=>?_) v.out⟩⟩;cases e with
 |normal=>obtain⟨o,⟨rfl,k,l⟩,w,x⟩:=g;exact⟨_,⟨⟨l,k⟩,by omega⟩,w,x⟩
 |exit j=>exact g
 |ret=>exact g
def du{a b c:E O}(d:mB a=ε)(f:mB b=ε)(g:mB c=ε):∀e,mB (cx a b c e)=ε
 | .normal=>d
 | .exit _=>f
 | .ret=>g
def bY{Γ:aE}(g:aK θ Γ){f:bq}{fn:cA}{mds:E Md}{a:E SA->χ FR}(i:θ.funcs[f]?=γ fn)(k:fn.body.isSome=ε)(h:∀sas b,a sas=γ b->aJ b.ap=ε->∃(d:E AB)(Λ:O->χ Sum)(n:O),ab (bK mds sas) d/\(∀c,fn.body=γ c->eK θ d.length Λ c)/\aC (ad θ Γ Λ n fn (hZ 0 mds sas) d (af d.length)) (dV (bI mds sas b.put) b)):au θ f (am mds a):=
 nk enters i k λsas b l m=>by obtain⟨d,Λ,n,o,p,q⟩:=h sas b l m;exact⟨d,o,λM j w t hM r s e=>nS g mixed enters i p hM q.out r s e⟩
structure Cy where
 c0:Z
 c1:Z
 c2:Z
 c3:Z
 c4:Z
 c5:Z
 c6:Z
 c7:Z
 deriving DecidableEq
structure Wh where
 s:Z
 r:Cy
 deriving DecidableEq
def Cy.f(a:Cy):O->Z:=v8 a.c0 a.c1 a.c2 a.c3 a.c4 a.c5 a.c6 a.c7
def bC(f:aQ):Cy:=⟨f 0,f 1,f 2,f 3,f 4,f 5,f 6,f 7⟩
def adJ(a:Cy):bC a.f=a:=rfl
def RR{f g:O->Z}(h:∀k,k<8->f k=g k):bC f=bC g:=by simp only[bC,h 0 (by omega),h 1 (by omega),h 2 (by omega),h 3 (by omega),h 4 (by omega),h 5 (by omega),h 6 (by omega),h 7 (by omega)]
def ga(a b:Cy):Cy:=bC (qp a.f b.f)
def jj:Cy:=⟨0,0,0,0,0,0,0,0⟩
def bz(a:Cy):κ:=pn a.f (-1000000) 1000000
def mY(a:Cy):Prop:=∀k,k<8-> -9223372036854775808<=a.f k/\a.f k<=9223372036854775807
def RP{b:Cy}(h:mY b):ga jj b=b:=by
 rw[<-adJ b];refine RR λk a=>?_
 have:=h k a;have e:qp jj.f (bC b.f).f k=W (0+b.f k):=by rcases(by omega:k=0\/k=1\/k=2\/k=3\/k=4\/k=5\/k=6\/k=7)with rfl|rfl|rfl|rfl|rfl|rfl|rfl|rfl<;>rfl
 rw[e,kL (by omega) (by omega),ZN]
def eG:E Wh->Wh->E Wh
 |[],w=>[⟨w.s,ga jj w.r⟩]
 |x::l,w=>if x.s=w.s then⟨x.s,ga x.r w.r⟩::l else x::eG l w
def cI:E Wh->Wh->E Wh
 |[],w=>[w]
 |x::l,w=>if x.s<w.s then x::cI l w else if x.s=w.s then⟨x.s,ga x.r w.r⟩::l else w::x::l
def jL(l:E Wh)(s:Z):χ Cy:=(l.find? λx=>ο (x.s=s)).map (·.r)
def dR(l:E Wh)(w:Wh):Cy:=match jL l w.s with
 |some r=>ga r w.r
 |none=>w.r
def runT(b:E Wh->Wh->E Wh):E Wh->E Wh->χ (E Wh)
 |a,[]=>γ a
 |a,w::c=>if bz (dR a w)=ε then runT b (b a w) c else ζ
def distinct(l:E Wh):Prop:=l.Pairwise λx y=>x.s≠y.s
def rising(l:E Wh):Prop:=l.Pairwise λx y=>x.s<y.s
def rising.distinct{l:E Wh}(h:rising l):distinct l:=List.Pairwise.imp (λh=>by omega) h
def al'{l g:E Wh}(h:l.Perm g)(a:distinct l)(s:Z):jL l s=jL g s:=by
 induction h with
 |nil=>rfl
 |cons x _ j=>
  have a:=nE.1 a;simp only[jL,HE];by_cases b:x.s=s
  ·simp[b]
  ·simp only[b,decide_false]
   exact j a.2
 |swap x y l=>have c:=nE.1 a;have d:y.s≠x.s:=c.1 x (by simp);simp only[jL,HE];by_cases b:x.s=s<;>by_cases i:y.s=s<;>simp[b,i];exact(d (i.trans b.symm)).elim
 |trans c k e f=>exact(e a).trans (f (c.pairwise a (λh=>h.symm)))
def agP{l:E Wh}{w:Wh}(h:∀x∈l,x.s≠w.s):eG l w=l++[⟨w.s,ga jj w.r⟩]:=by
 induction l with
 |nil=>rfl
 |cons y l a=>unfold eG;rw[bi (h y (by simp)),a λx b=>h x (by simp[b])];rfl
def agR{l:E Wh}{w:Wh}:∀x∈eG l w,x.s=w.s\/x∈l:=by
 induction l with
 |nil=>intro x a;simp[eG]at a;subst a;exact .inl rfl
 |cons y l b=>
  intro x a;unfold eG at a;split at a
  ·rename_i e
   rcases dw.1 a with rfl|a
   ·exact .inl e
   ·exact .inr (by simp[a])
  ·rcases dw.1 a with rfl|a
   ·exact .inr (by simp)
   ·rcases b x a with h|h
    ·exact .inl h
    ·exact .inr (by simp[h])
def agV{l:E Wh}{w:Wh}:∀x∈cI l w,x.s=w.s\/x∈l:=by
 induction l with
 |nil=>intro x a;simp[cI]at a;subst a;exact .inl rfl
 |cons y l b=>
  intro x a;unfold cI at a;split at a
  ·rcases dw.1 a with rfl|a
   ·exact .inr (by simp)
   ·rcases b x a with h|h
    ·exact .inl h
    ·exact .inr (by simp[h])
  ·split at a
   ·rename_i e
    rcases dw.1 a with rfl|a
    ·exact .inl e
    ·exact .inr (by simp[a])
   ·rcases dw.1 a with rfl|a
    ·exact .inl rfl
    ·exact .inr a
def agN{l:E Wh}(w:Wh)(h:distinct l):distinct (eG l w):=by
 induction l with
 |nil=>simp[eG,distinct]
 |cons y l d=>
  have b:=nE.1 h;unfold eG;split
  ·exact nE.2 ⟨λx a=>b.1 x a,b.2⟩
  ·rename_i c
   refine nE.2 ⟨λx a=>?_,d b.2⟩;rcases agR x a with e|a
   ·rw[e];exact c
   ·exact b.1 x a
def Lv{l:E Wh}(w:Wh)(h:rising l):rising (cI l w):=by
 induction l with
 |nil=>simp[cI,rising]
 |cons y l d=>
  have b:=nE.1 h;unfold cI;split
  ·rename_i c
   refine nE.2 ⟨λx a=>?_,d b.2⟩;rcases agV x a with e|a
   ·rw[e];exact c
   ·exact b.1 x a
  ·split
   ·exact nE.2 ⟨λx a=>b.1 x a,b.2⟩
   ·rename_i f g
    refine nE.2 ⟨λx a=>?_,h⟩;rcases dw.1 a with rfl|a
    ·omega
    ·have:=b.1 x a
     omega
def agQ{l:E Wh}{w:Wh}(h:distinct l)(c:mY w.r):(eG l w).Perm (⟨w.s,dR l w⟩::l.filter λx=>ο (x.s≠w.s)):=by
 induction l with
 |nil=>simp[eG,dR,jL,RP c]
 |cons y l d=>
  have b:=nE.1 h;unfold eG;by_cases e:y.s=w.s
  ·rw[aP e]
   have f:(l.filter λx=>ο (x.s≠w.s))=l:=O8.2 λx g=>by have:=b.1 x g;simp only[aB];omega
   have a:dR (y::l) w=ga y.r w.r:=by simp[dR,jL,e]
   rw[O6 (by simp[e]),f,a,e]
  ·rw[bi e]
   have a:dR (y::l) w=dR l w:=by simp[dR,jL,e]
   rw[O7 (by simp[e]),a];exact((d b.2).cons y).trans (ZW _ _ _)
def Un{l:E Wh}{w:Wh}(h:rising l):(cI l w).Perm (⟨w.s,dR l w⟩::l.filter λx=>ο (x.s≠w.s)):=by
 induction l with
 |nil=>simp[cI,dR,jL]
 |cons y l i=>
  have c:=nE.1 h;unfold cI;by_cases e:y.s=w.s
  ·rw[bi (by omega),aP e]
   have d:(l.filter λx=>ο (x.s≠w.s))=l:=O8.2 λx a=>by have:=c.1 x a;simp only[aB];omega
   have f:dR (y::l) w=ga y.r w.r:=by simp[dR,jL,e]
   rw[O6 (by simp[e]),d,f,e]
  ·have f:dR (y::l) w=dR l w:=by simp[dR,jL,e]
   rw[O7 (by simp[e]),f];by_cases b:y.s<w.s
   ·rw[aP b]
    exact((i c.2).cons y).trans (ZW _ _ _)
   ·rw[bi b,bi e]
    have g:∀x∈l,x.s≠w.s:=λx a=>by have:=c.1 x a;omega
    have d:(l.filter λx=>ο (x.s≠w.s))=l:=O8.2 λx a=>by simpa using g x a
    have j:dR l w=w.r:=by
     have:(l.find? λx=>ο (x.s=w.s))=ζ:=wi.2 λx a=>by simpa using g x a
     simp[dR,jL,this]
    rw[d,j]
def KK:∀(ws A B:E Wh),(∀w∈ws,mY w.r)->A.Perm B->distinct A->rising B->match runT eG A ws,runT cI B ws with
  |some d,γ e=>d.Perm e/\distinct d/\rising e
  |none,ζ=>True
  |_,_=>jc
 |[],A,B,_,b,a,c=>⟨b,a,c⟩
 |w::ws,A,B,f,b,a,c=>by
  have g:dR A w=dR B w:=by simp only[dR,al' b a]
  unfold runT;rw[g];by_cases h:bz (dR B w)=ε
  ·simp only[aP h]
   refine KK ws _ _ (λx i=>f x (by simp[i])) ?_ (agN w a) (Lv w c);refine(agQ a (f w (by simp))).trans (List.Perm.trans ?_ (Un c).symm);rw[g];exact(b.filter _).cons _
  ·simp only[bi h]
def WP:∀{l a:E Wh},l.Perm a->rising l->rising a->l=a
 |[],a,h,_,_=>(List.Perm.nil_eq h)
 |x::l,[],h,_,_=>by have:=h.length_eq;simp at this
 |x::l,y::a,h,i,j=>by
  have f:=nE.1 i;have g:=nE.1 j;have b:x=y:=by
   have c:x∈y::a:=h.subset (by simp);have d:y∈x::l:=h.symm.subset (by simp);rcases dw.1 c with e|c
   ·exact e
   ·rcases dw.1 d with e|d
    ·exact e.symm
    ·have:=f.1 y d
     have:=g.1 x c;omega
  subst b;rw[WP (List.Perm.cons_inv h) f.2 g.2]
def bO(l:E Wh):E Wh:=l.filter λw=>ο (w.r≠jj)
def gc(l:E Wh):κ:=ο (l.length<=12)&&l.all λw=>aD w.s (-1000) 1000&&bz w.r
def RS{l c:E Wh}(h:l.Perm c):gc l=gc c:=by
 unfold gc;rw[h.length_eq]
 congr 1
 rw[kk,bX,bX];exact⟨λa x b=>a x (h.symm.subset b),λa x b=>a x (h.subset b)⟩
def im(ws:E Wh):χ (E Wh):=match runT cI [] ws with
 |some l=>if gc (bO l)=ε then γ (bO l)else ζ
 |none=>ζ
def apI{ws A L:E Wh}(g:∀w∈ws,mY w.r)(i:runT eG [] ws=γ A)(j:gc (bO A)=ε)(b:L.Perm (bO A))(k:L.Pairwise λx y=>x.s<=y.s):im ws=γ L:=by
 have:=KK ws [] [] g (HC _) wh wh;rw[i]at this;unfold im;cases c:runT cI [] ws with
 |none=>rw[c]at this;exact this.elim
 |some B=>
  rw[c]at this;obtain⟨d,e,l⟩:=this;have f:(bO A).Perm (bO B):=d.filter _;simp only;rw[aP (by rw[<-RS f];exact j)]
  congr 1
  have m:distinct L:=List.Perm.pairwise b.symm (ZV _ e) (λh=>h.symm);have a:rising L:=by refine List.Pairwise.imp₂ (λx y d e=>?_) k m;omega
  exact(WP (b.trans f) a (ZV _ l)).symm
def Yw{ws:E Wh}(b:∀w∈ws,mY w.r)(h:runT eG [] ws=ζ\/∃A,runT eG [] ws=γ A/\gc (bO A)=η):im ws=ζ:=by
 have:=KK ws [] [] b (HC _) wh wh;unfold im;rcases h with h|⟨A,c,d⟩
 ·rw[h]at this
  cases a:runT cI [] ws with
  |none=>rfl
  |some B=>rw[a]at this;exact this.elim
 ·rw[c]at this
  cases a:runT cI [] ws with
  |none=>rfl
  |some B=>rw[a]at this;obtain⟨e,_,_⟩:=this;have f:(bO A).Perm (bO B):=e.filter _;simp only;rw[bi (by rw[<-RS f,d];simp)]
def gL(L:E Wh)(k:O):Z:=match L[k]?with
 |some w=>w.s
 |none=>0
def kJ:E Wh->O->E Wh
 |x::y::l,0=>y::x::l
 |x::l,j+1=>x::kJ l j
 |l,_=>l
def N5:∀(L:E Wh)(j:O),(kJ L j).Perm L
 |[],_=>by simp[kJ]
 |[_],0=>by simp[kJ]
 |[_],j+1=>by simp[kJ]
 |x::y::l,0=>ZW _ _ _
 |x::y::l,j+1=>by simp only[kJ];exact(N5 (y::l) j).cons x
def Yb(L:E Wh)(j:O):(kJ L j).length=L.length:=(N5 L j).length_eq
def N4:∀(L:E Wh)(j k:O),j+1<L.length->(kJ L j)[k]?=if k=j then L[j+1]?else if k=j+1 then L[j]?else L[k]?
 |[],j,k,h=>by simp at h
 |[_],j,k,h=>by simp at h
 |x::y::l,0,k,_=>by
  simp only[kJ]
  match k with
  |0=>simp
  |1=>simp
  |k+2=>simp
 |x::y::l,j+1,k,h=>by
  simp only[kJ];have a:=N4 (y::l) j;cases k with
  |zero=>simp
  |succ k=>simpa using a k (by simpa using h)
def XH{L:E Wh}{j:O}(h:j+1<L.length)(k:O):gL (kJ L j) k=if k=j then gL L (j+1)else if k=j+1 then gL L j else gL L k:=by
 unfold gL;rw[N4 L j k h];by_cases a:k=j
 ·simp only[aP a]
 ·simp only[bi a]
  by_cases b:k=j+1
  ·simp only[aP b]
  ·simp only[bi b]
def kI:O->E Wh->E Wh
 |0,L=>L
 |j+1,L=>if gL L (j+1)<gL L j then kI j (kJ L j)else L
def XC:∀(j:O)(L:E Wh),(kI j L).Perm L
 |0,L=>HC _
 |j+1,L=>by
  unfold kI;split
  ·exact(XC j _).trans (N5 L j)
  ·exact HC _
def GF(L:E Wh)(i j:O):Prop:=∀a b,a<b->b<=i->b≠j->gL L a<=gL L b
def GG(L:E Wh)(n:O):Prop:=∀a b,a<b->b<n->gL L a<=gL L b
def alI{L:E Wh}{i j:O}(r:i<L.length)(s:j+1<=i)(h:GF L i (j+1))(l:gL L (j+1)<gL L j):GF (kJ L j) i j:=by
 intro a b g c k;rw[XH (by omega),XH (by omega)];have m:a<j->gL L a<=gL L j:=λ_=>h a j (by omega) (by omega) (by omega)
 have n:j+1<b->gL L j<=gL L b:=λ_=>h j b (by omega) c (by omega)
 have o:j+1<b->gL L (j+1)<=gL L b:=λ_=>h (j+1) b (by omega) c (by omega)
 have p:b≠j+1->gL L a<=gL L b:=λq=>h a b g c q
 rw[bi k];by_cases d:b=j+1
 ·rw[aP d]
  by_cases e:a=j
  ·rw[aP e];omega
  ·rw[bi e,bi (by omega)]
   exact m (by omega)
 ·rw[bi d]
  by_cases e:a=j
  ·rw[aP e]
   exact o (by omega)
  ·rw[bi e]
   by_cases f:a=j+1
   ·rw[aP f]
    exact n (by omega)
   ·rw[bi f]
    exact p d
def Wo{L:E Wh}{i j:O}(g:j<=i)(h:GF L i j)(c:j=0\/gL L (j-1)<=gL L j):GG L (i+1):=by
 intro a b e k;by_cases d:b=j
 ·subst d
  rcases c with l|c
  ·omega
  ·by_cases f:a=b-1
   ·subst f
    exact c
   ·exact Int.le_trans (h a (b-1) (by omega) (by omega) (by omega)) c
 ·exact h a b e (by omega) d
def XB:∀(j:O)(L:E Wh)(i:O),i<L.length->j<=i->GF L i j->GG (kI j L) (i+1)
 |0,L,i,b,a,h=>Wo a h (.inl rfl)
 |j+1,L,i,b,a,h=>by
  unfold kI;split
  ·rename_i c
   exact XB j _ i (by rw[Yb];exact b) (by omega) (alI b a h c)
  ·rename_i d
   exact Wo a h (.inr (by simp only[Pk];omega))
def qu(L:E Wh):O->E Wh
 |0=>L
 |n+1=>kI n (qu L n)
def G6(L:E Wh):∀n,(qu L n).Perm L
 |0=>HC _
 |n+1=>(XC n _).trans (G6 L n)
def XF(L:E Wh):∀n,n<=L.length->GG (qu L n) n
 |0,_=>λa b _ h=>by omega
 |n+1,h=>by
  refine XB n _ n (by rw[(G6 L n).length_eq];omega) (aR _) λa b c e d=>?_
  exact XF L n (by omega) a b c (by omega)
def alM{L:E Wh}(h:GG L L.length):L.Pairwise λx y=>x.s<=y.s:=by rw[List.pairwise_iff_getElem];intro i j c b a;have:=h i j a b;simpa[gL,c,b]using this
def lw(L:E Wh):E Wh:=qu L L.length
def NL(L:E Wh):(lw L).Perm L:=G6 L _
def aoa(L:E Wh):(lw L).Pairwise λx y=>x.s<=y.s:=alM (by have:=XF L L.length (aR _);rw[show(lw L).length=L.length from(NL L).length_eq];exact this)
def apH{ws:E Wh}(b:∀w∈ws,mY w.r):(match runT eG [] ws with
  |some A=>if gc (bO A)=ε then γ (lw (bO A))else ζ
  |none=>ζ)=im ws:=by
 cases c:runT eG [] ws with
 |none=>exact(Yw b (.inl c)).symm
 |some A=>
  simp only;by_cases a:gc (bO A)=ε
  ·rw[aP a]
   exact(apI b c a (NL _) (aoa _)).symm
  ·rw[bi a]
   exact(Yw b (.inr ⟨A,c,by simpa using a⟩)).symm
abbrev J(f:ω):O->E τ:=λj=>[ι (f j 0),ι (f j 1),ι (f j 2),ι (f j 3),ι (f j 4),ι (f j 5),ι (f j 6),ι (f j 7),ι (f j 8)]
def UB:E τ->κ
 |[.int .i64 _,.int .i64 _,.int .i64 _,.int .i64 _,.int .i64 _,.int .i64 _,.int .i64 _,.int .i64 _,.int .i64 _]=>ε
 |_=>η
def ξ(g:O->E τ):O->O->Z:=λj k=>intOf ((g j).getD k undef)
def ak(m:O)(g:O->E τ):κ:=(dH m).all λj=>UB (g j)
def aN{m:O}{g:O->E τ}(h:ak m g=ε)(j:O)(a:j<m):g j=J (ξ g) j:=by
 have:=bX.1 h j (by simpa using a);simp only[J,ξ,ι];unfold UB at this;split at this
 ·rename_i e;rw[e];rfl
 ·cases this
def abg{m:O}{f:O->O->Z}{g:O->E τ}(h:∀j,j<m->g j=J f j):ak m g=ε:=bX.2 λj a=>by rw[h j (by simpa using a)];rfl
def bw(m:O)(f:ω):ak m (J f)=ε:=abg (f:=f) λ_ _=>rfl
def bm(f:aQ):Wh:=⟨f 0,⟨f 1,f 2,f 3,f 4,f 5,f 6,f 7,f 8⟩⟩
def fU(w:Wh):O->Z
 |0=>w.s
 |1=>w.r.c0
 |2=>w.r.c1
 |3=>w.r.c2
 |4=>w.r.c3
 |5=>w.r.c4
 |6=>w.r.c5
 |7=>w.r.c6
 |8=>w.r.c7
 |_=>0
def V(f:ω)(m:O):E Wh:=(dH m).map λj=>bm (f j)
def Y(L:E Wh):O->O->Z:=λj k=>match L[j]?with
 |some w=>fU w k
 |none=>0
def ch(f:ω)(m:O):(V f m).length=m:=by simp[V]
def nb(f:ω){m j:O}(a:j<m):(V f m)[j]?=γ (bm (f j)):=by simp[V,a]
def GY{f g:O->O->Z}{j:O}(h:∀k,k<9->f j k=g j k):J f j=J g j:=by simp only[J,h 0 (by omega),h 1 (by omega),h 2 (by omega),h 3 (by omega),h 4 (by omega),h 5 (by omega),h 6 (by omega),h 7 (by omega),h 8 (by omega)]
def W_(f:ω){m j:O}(a:j<m):J (Y (V f m)) j=J f j:=by
 refine GY λk b=>?_
 simp only[Y,nb f a];rcases(by omega:k=0\/k=1\/k=2\/k=3\/k=4\/k=5\/k=6\/k=7\/k=8)with rfl|rfl|rfl|rfl|rfl|rfl|rfl|rfl|rfl<;>rfl
def asL(w:Wh):bm (fU w)=w:=rfl
def s7(L:E Wh):V (Y L) L.length=L:=by
 apply O5;intro j;by_cases a:j<L.length
 ·rw[nb _ a,cV a]
  have:Y L j=fU L[j]:=by
   funext k
   simp only[Y,cV a]
  rw[this,asL]
 ·rw[l0 (by rw[ch];omega),l0 (by omega)]
def cb(f:ω)(m:O):V (ξ (J f)) m=V f m:=rfl
def gw(f:ω)(m:O):V f (m+1)=V f m++[bm (f m)]:=by simp[V,HK]
def aqo(a:aQ):let b:=[vB η];let c:=(-1000000:Z);let d:=(1000000:Z);ad θ m4 K 100 f106 ([dn a].map .v) [] ed
 =bif !aD (a 0) c d then rO b []else bif !aD (a 1) c d then rO b []else bif !aD (a 2) c d then rO b []else bif !aD (a 3) c d then rO b []else bif !aD (a 4) c d then rO b []else bif !aD (a 5) c d then rO b []else bif !aD (a 6) c d then rO b []else bif !aD (a 7) c d then rO b []else rO [vB ε] []:=by intros;kernel_rfl
def AK:E τ->χ (τ×E κ)
 |[.agg ⟨[.int .i64 a,.int .i64 b,.int .i64 c,.int .i64 d,.int .i64 e,.int .i64 f,.int .i64 g,.int .i64 h]⟩]=>γ (.bool (bz ⟨a,b,c,d,e,f,g,h⟩),[])
 |_=>ζ
def Ce:au θ 106 (aS AK):=by
 refine en (n:=100) p0 func106 rfl λj v k a l=>?_
 unfold AK at a;split at a
 ·rename_i b c d e f g h i
  cases a;show Good (ad θ m4 K 100 f106 ([dn (v8 b c d e f g h i)].map .v) [] ed) _
  rw[aqo];exact sT (by simp only[vp,tg,Al,JT,bz,Cy.f,pn])
 ·cases a
def m2(a:(O->Z)->κ):E τ->χ (τ×E κ)
 |[.agg ⟨[.int .i64 b,.int .i64 c,.int .i64 d,.int .i64 e,.int .i64 f,.int .i64 g,.int .i64 h,.int .i64 i]⟩]=>γ (.bool (a (v8 b c d e f g h i)),[])
 |_=>ζ
def Ka(a:(O->Z)->Z->(O->Z)->O->Z):E τ->χ (τ×E κ)
 |[.agg ⟨[.int .i64 b,.int .i64 c,.int .i64 d,.int .i64 e,.int .i64 f,.int .i64 g,.int .i64 h,.int .i64 i]⟩,.int .i64 n,.agg ⟨[.int .i64 j,.int .i64 k,.int .i64 l,.int .i64 m,.int .i64 o,.int .i64 p,.int .i64 q,.int .i64 r]⟩]=>γ (dn (a (v8 b c d e f g h i) n (v8 j k l m o p q r)),[])
 |_=>ζ
def FD(a:(O->Z)->κ)(b:(O->Z)->Z->(O->Z)->O->Z):aE:=ext (ext g0 106 (aS (m2 a))) 172 (aS (Ka b))
abbrev Oz(w:aQ):τ:=.agg #[.int .i64 (w 0),.int .i64 (w 1),.int .i64 (w 2),.int .i64 (w 3),.int .i64 (w 4),.int .i64 (w 5),.int .i64 (w 6),.int .i64 (w 7),.int .i64 (w 8)]
abbrev whC(w:aQ):E AV:=[.v (ι (w 0)),.v (ι (w 1)),.v (ι (w 2)),.v (ι (w 3)),.v (ι (w 4)),.v (ι (w 5)),.v (ι (w 6)),.v (ι (w 7)),.v (ι (w 8))]
abbrev Bx:Ex->E O:=cx [0,3,6] [0,3,6] [4,5]
abbrev uV(m:O)(f:ω)(w:aQ)(t:ae):E AB:=[.row η m 9 (J f) t,.cells (whC w) 112]
abbrev CN(m i:O):E AV:=[.sl 0 9 0 0 m ζ,.ptr 1 0 0 0,.v (ι i)]
def amA(m:O)(f:ω)(w:aQ)(t:ae)(i:O):let b:=[AB.row η m 9 (J f) t,AB.cells [vI (w 0),vI (w 1),vI (w 2),vI (w 3),vI (w 4),vI (w 5),vI (w 6),vI (w 7),vI (w 8)] 112];let a:=(↑i:Z);let c:=AV.sl 0 9 0 0 m ζ;let d:=[c,AV.ptr 1 0 0 0,vI a];a0 θ g0 100 K (a4 0 PD) (aw 0 75 ((Bx .normal).zip (CN m i))) (uV m f w t) (cJ 75 Bx 1)
 =bif ο (a<(m:Z))then Ω [ο (a<(m:Z)),ο (0+a5 a<m)] (bif ο (f (0+a5 a) 0<w 0)then ao.out .normal [c,AV.ptr 1 0 0 0,vI (aj .i64 (a+(1:Z)))] b else ao.out (Ex.exit 0) d b)else ao.out (Ex.exit 0) d b:=by intros;kernel_rfl
noncomputable abbrev LC(m:O)(f:ω)(w:aQ)(t:ae)(k:O):O->χ Sum:=bJ 0 (bD 75 (Bx .normal) 1 (CN m 0) (uV m f w t) (λa=>a .normal (aw 0 75 [(0,.sl 0 9 0 0 m ζ),(3,.ptr 1 0 0 0),(6,.v (ι k))]) (uV m f w t)))
def ap'(z:(O->Z)->κ)(g:(O->Z)->Z->(O->Z)->O->Z)(m:O)(f:ω)(w:aQ)(t:ae)(k:O):let c:=(↑k:Z);let h:=(v8 (w 1) (w 2) (w 3) (w 4) (w 5) (w 6) (w 7) (w 8));let b:=(a5 c);let o:=(0+(a5 c-0));let e:=(0+a5 c);let a:=(1:Z);let i:=(m:Z);let p:=AB.row η m 9 (J f) t;let r:=ο (i<=i);let u:=ο (a5 c<0+m);let v:=ο (0+a5 c<m);let s:=(c-(0:Z));let n:=(0+m);let x:=ο (c<=i);let j:=(v8 (f e 1) (f e 2) (f e 3) (f e 4) (f e 5) (f e 6) (f e 7) (f e 8));let d:=(0+a5 s+1);let l:=(0+a5 s);let A:=(0+a5 s+1+a5 (i-c));let y:=ο (c<(↑n:Z));let B:=(rO [AV.Ψ [AV.own 1 A,AV.v (.bool (z h))]] [p,AB.row ε A 9 (λq=>[ι (bif Δ q d then bif Δ q l then f (0+(q-0)) 0 else w 0 else f (0+a5 c+(q-d)) 0),ι (bif Δ q d then bif Δ q l then f (0+(q-0)) 1 else w 1 else f (0+a5 c+(q-d)) 1),ι (bif Δ q d then bif Δ q l then f (0+(q-0)) 2 else w 2 else f (0+a5 c+(q-d)) 2),ι (bif Δ q d then bif Δ q l then f (0+(q-0)) 3 else w 3 else f (0+a5 c+(q-d)) 3),ι (bif Δ q d then bif Δ q l then f (0+(q-0)) 4 else w 4 else f (0+a5 c+(q-d)) 4),ι (bif Δ q d then bif Δ q l then f (0+(q-0)) 5 else w 5 else f (0+a5 c+(q-d)) 5),ι (bif Δ q d then bif Δ q l then f (0+(q-0)) 6 else w 6 else f (0+a5 c+(q-d)) 6),ι (bif Δ q d then bif Δ q l then f (0+(q-0)) 7 else w 7 else f (0+a5 c+(q-d)) 7),ι (bif Δ q d then bif Δ q l then f (0+(q-0)) 8 else w 8 else f (0+a5 c+(q-d)) 8)]) 112]);let C:=[x,r,Θ l 549755813888,Θ l m,Θ l l,Θ d 549755813888,x,r,r,Θ d d,Θ A 549755813888,Θ (0+a5 c+a5 (i-c)) m];ad θ (FD z g) (LC m f w t k) 100 PD [.sl 0 9 0 0 m ζ,.v (Oz w)] [.row η m 9 (J f) t] (af 1)
 =Ω [cw ([AV.sl 0 9 0 0 m ζ,AV.ptr 1 0 0 0,vI 0]=CN m 0/\ab [p,AB.cells [vI (w 0),vI (w 1),vI (w 2),vI (w 3),vI (w 4),vI (w 5),vI (w 6),vI (w 7),vI (w 8)] 112] (uV m f w t))] (bif ο (c<i)then Ω [ο (c<i),v] (bif f e 0==w 0 then Ω [Θ n 549755813888,Θ n m,ο (c<i),v,y,u,y,u] (rO [AV.Ψ [AV.own 1 n,AV.v (.bool (z (v8 (bif ai b b then g j a h 0 else f o 1) (bif ai b b then g j a h 1 else f o 2) (bif ai b b then g j a h 2 else f o 3) (bif ai b b then g j a h 3 else f o 4) (bif ai b b then g j a h 4 else f o 5) (bif ai b b then g j a h 5 else f o 6) (bif ai b b then g j a h 6 else f o 7) (bif ai b b then g j a h 7 else f o 8))))]] [p,AB.row ε n 9 (λq=>[ι (bif ai q b then f o 0 else f (0+(q-0)) 0),ι (bif ai q b then g j a h 0 else f (0+(q-0)) 1),ι (bif ai q b then g j a h 1 else f (0+(q-0)) 2),ι (bif ai q b then g j a h 2 else f (0+(q-0)) 3),ι (bif ai q b then g j a h 3 else f (0+(q-0)) 4),ι (bif ai q b then g j a h 4 else f (0+(q-0)) 5),ι (bif ai q b then g j a h 5 else f (0+(q-0)) 6),ι (bif ai q b then g j a h 6 else f (0+(q-0)) 7),ι (bif ai q b then g j a h 7 else f (0+(q-0)) 8)]) 112])else Ω C B)else Ω C B):=by intros;kernel_rfl
def df:E Wh->Z->O
 |[],_=>0
 |x::l,s=>if x.s<s then df l s+1 else 0
def ln:E Wh->Wh->κ
 |[],w=>bz w.r
 |x::l,w=>if x.s<w.s then ln l w else if x.s=w.s then bz (ga x.r w.r)else bz w.r
def ahg(l:E Wh)(s:Z):df l s<=l.length:=by
 induction l with
 |nil=>simp[df]
 |cons x l a=>unfold df;split<;>simp only[cn]<;>omega
def ahh{l:E Wh}{s:Z}{j:O}(h:j<df l s){x:Wh}(a:l[j]?=γ x):x.s<s:=by
 induction l generalizing j with
 |nil=>simp at a
 |cons y l b=>
  unfold df at h;split at h
  ·rename_i c
   cases j with
   |zero=>simp at a;subst a;exact c
   |succ j=>exact b (j:=j) (by omega) (by simpa using a)
  ·omega
def ahi{l:E Wh}{s:Z}{x:Wh}(a:l[df l s]?=γ x):¬x.s<s:=by
 induction l with
 |nil=>simp at a
 |cons y l b=>
  unfold df at a;split at a
  ·exact b (by simpa using a)
  ·rename_i c
   simp at a;subst a;exact c
def agW{l:E Wh}{w x:Wh}(a:l[df l w.s]?=γ x)(c:x.s=w.s):(cI l w).length=l.length/\(∀j,(cI l w)[j]?=if j=df l w.s then γ ⟨x.s,ga x.r w.r⟩else l[j]?)/\ln l w=bz (ga x.r w.r):=by
 induction l with
 |nil=>simp at a
 |cons y l d=>
  by_cases b:y.s<w.s
  ·simp only[df,cI,ln,aP b]at a⊢
   obtain⟨e,f,g⟩:=d (by simpa using a);refine⟨by simp[e],λj=>?_,g⟩;cases j with
   |zero=>simp
   |succ j=>simpa using f j
  ·simp only[df,bi b]at a
   simp at a;subst a;simp only[df,cI,ln,bi b,aP c];refine⟨by simp,λj=>?_,trivial⟩;cases j<;>simp
def agT{l:E Wh}{w:Wh}(h:∀x,l[df l w.s]?=γ x->x.s≠w.s):(cI l w).length=l.length+1/\(∀j,(cI l w)[j]?=if j<df l w.s then l[j]?else if j=df l w.s then γ w else l[j-1]?)/\ln l w=bz w.r:=by
 induction l with
 |nil=>refine⟨rfl,λj=>?_,rfl⟩;cases j<;>simp[df,cI]
 |cons y l e=>
  by_cases c:y.s<w.s
  ·simp only[df,cI,ln,aP c]at h⊢
   obtain⟨a,b,f⟩:=e (λx g=>h x (by simpa using g));refine⟨by simp[a],λj=>?_,f⟩;cases j with
   |zero=>simp
   |succ j=>
    have:=b j;simp only[List.getElem?_cons_succ,this,Nat.add_lt_add_iff_right,Nat.add_right_cancel_iff,Pk];by_cases a:j<df l w.s
    ·simp[a]
    ·by_cases b:j=df l w.s
     ·simp[b]
     ·have:j≠0:=by omega
      obtain⟨i,rfl⟩:=Nat.exists_eq_succ_of_ne_zero this;simp[a,b]
  ·have d:y.s≠w.s:=h y (by simp[df,c])
   simp only[df,cI,ln,bi c,bi d];refine⟨by simp,λj=>?_,trivial⟩;cases j<;>simp
def ajs{l:E Wh}(h:rising l)(w:Wh):ln l w=bz (dR l w):=by
 induction l with
 |nil=>rfl
 |cons y l e=>
  have c:=nE.1 h;by_cases d:y.s<w.s
  ·have:dR (y::l) w=dR l w:=by
    have a:y.s≠w.s:=by omega
    simp[dR,jL,a]
   rw[this,ln,aP d,e c.2]
  ·by_cases b:y.s=w.s
   ·simp[ln,dR,jL,b]
   ·have:dR (y::l) w=w.r:=by
     have f:(l.find? λx=>ο (x.s=w.s))=ζ:=by rw[wi];intro x g;have:=c.1 x g;simp only[aB];omega
     simp[dR,jL,b,f]
    rw[this];simp[ln,d,b]
def bU(bad:O->κ)(n:O):κ:=(dH n).all λj=> !bad j
def qj{bad:O->κ}{n:O}(h:bU bad n=ε)(a:bad n=η):bU bad (n+1)=ε:=by unfold bU at*;rw[HK,gC,h];simp[a]
def vi{bad:O->κ}{n j:O}(h:bU bad n=ε)(a:j<n):bad j=η:=by have:=bX.1 h j (by simpa using a);simpa using this
def og{bad:O->κ}{n j:O}(b:j<n)(a:bad j=ε):bU bad n=η:=by
 cases h:bU bad n with
 |false=>rfl
 |true=>rw[vi h b]at a;cases a
def qi{bad:O->κ}{m:O}:bU bad m=ε↔∀i,i<m->bad i=η:=by simp[bU]
def bR{x:Z}(h: -9223372036854775808<=x/\x<=9223372036854775807):aj a7 x=x:=kL h.1 h.2
def aoE(m:O)(f:ω)(w:aQ)(t:ae)(k:O)(r:m<=2^40)(s:k<=m)(l:∀j,j<k->f j 0<w 0)(o:k<m->¬f k 0<w 0):cp θ 1 (.block 0 (.loop (a4 0 PD))) (bD 75 (Bx .normal) 1 (CN m 0) (uV m f w t) (λa=>a .normal (aw 0 75 [(0,.sl 0 9 0 0 m ζ),(3,.ptr 1 0 0 0),(6,.v (ι k))]) (uV m f w t))):=by
 refine dQ bt (n:=100) (m:=1) (lv:=Bx) (λi=>CN m i) (λ_=>uV m f w t) (λi=>i<=k) m (λ_=>K) (du rfl rfl rfl) (aR _) (eF _) λa Q g i v p=>⟨cT _ _ _,?_⟩
 rw[amA];refine ay (λc=>?_) λc=>?_
 ·have c:=aL c
  have d:i<m:=by omega
  rw[cY,bF,show aj a7 ((i:Z)+1)=(i:Z)+1 from kL (by omega) (by omega)];refine ag (by simp only[F,ah,aa,aB];omega) (ay (λb=>?_) λb=>?_)
  ·have b:=aL b
   have q:i≠k:=λe=>o (by omega) (e▸b)
   exact Φ ⟨i+1,⟨rfl,d,by omega⟩,rfl,ab.refl _⟩
  ·have b:=cE b
   have:i=k:=by
    rcases nG i k with h|h
    ·exact(b (l i h)).elim
    ·omega
   subst this;exact Φ ⟨_,ab.refl _,by rw[aP rfl];exact g⟩
 ·have c:=cE c
  have:i=k:=by omega
  subst this;exact Φ ⟨_,ab.refl _,by rw[aP rfl];exact g⟩
def pW:m2 (λv=>bz (bC v))=AK:=by
 funext l
 rfl
def Sc:Ka lW=Fh:=by
 funext l
 rfl
def afK:aK θ (FD (λv=>bz (bC v)) lW):=by unfold FD;rw[pW,Sc];exact az (az bt Ce) MM
def adK(a b:aQ):bC (lW a 1 b)=bC (qp a b):=RR λk _=>by simp only[lW,qp,zu]
def dy:E Md:=[.rd 9 112,.val]
def Iv:E SA->χ FR
 |[.row m g,.v (.agg ⟨[.int .i64 a,.int .i64 b,.int .i64 c,.int .i64 d,.int .i64 w4,.int .i64 e,.int .i64 f,.int .i64 h,.int .i64 w8]⟩)]=>
  γ {val:=.Ψ [.own 0 (cI (V (ξ g) m) ⟨a,⟨b,c,d,w4,e,f,h,w8⟩⟩).length,.v (.bool (ln (V (ξ g) m) ⟨a,⟨b,c,d,w4,e,f,h,w8⟩⟩))],
      new:=[.row ε (cI (V (ξ g) m) ⟨a,⟨b,c,d,w4,e,f,h,w8⟩⟩).length 9 (J (Y (cI (V (ξ g) m) ⟨a,⟨b,c,d,w4,e,f,h,w8⟩⟩))) 112],ap:=[ak m g,ο (m<=2^38)]}
 |_=>ζ
def akD:au θ 167 (am dy Iv):=by
 refine bY afK func167 rfl λsas fr z U=>?_
 unfold Iv at z;split at z
 ·rename_i m g B C D H w4 I M N w8
  cases z;simp only[F]at U;obtain⟨X,h2,_⟩:=U;have hm:=aL h2;generalize P:(⟨B,⟨C,D,H,w4,I,M,N,w8⟩⟩:Wh)=W;generalize hL:V (ξ g) m=L;have k:L.length=m:=by rw[<-hL,ch]
  have Q:df L W.s<=m:=by rw[<-k];exact ahg _ _
  have d:∀j,j<m->L[j]?=γ (bm (ξ g j)):=λj a=>by rw[<-hL,nb _ a]
  have R:∀j,j<df L W.s->ξ g j 0<fU W 0:=λj a=>ahh a (d j (by omega))
  have S:df L W.s<m->¬ξ g (df L W.s) 0<fU W 0:=λh=>ahi (d _ h)
  refine⟨[.row η m 9 (J (ξ g)) 112],LC m (ξ g) (fU W) 112 (df L W.s),100,.cons (Ξ.row λj a=>aN X j a) .nil,cz (by kernel_rfl) (aoE m (ξ g) (fU W) 112 _ (by omega) Q R S),?_⟩;have hv:([.sl 0 9 0 0 m ζ,.v (Oz (fU W))]:E AV)=hZ 0 dy [.row m g,.v (.agg ⟨[.int .i64 B,.int .i64 C,.int .i64 D,.int .i64 H,.int .i64 w4,.int .i64 I,.int .i64 M,.int .i64 N,.int .i64 w8]⟩)]:=by rw[<-P];rfl
  rw[<-hv];show aC (ad θ (FD (λv=>bz (bC v)) lW) (LC m (ξ g) (fU W) 112 (df L W.s)) 100 PD [.sl 0 9 0 0 m ζ,.v (Oz (fU W))] [.row η m 9 (J (ξ g)) 112] (af 1)) _
  rw[ap'];simp only[cY,bF,zI,ZM,h_,aZ];have l:∀(n:O)(b:κ)(G:O->E τ),n=(cI L W).length->b=ln L W->(∀j,j<n->G j=J (Y (cI L W)) j)->aC (.out .ret [.Ψ [.own 1 n,.v (.bool b)]] [.row η m 9 (J (ξ g)) 112,.row ε n 9 G 112])
    (dV (bI dy [.row m g,.v (.agg ⟨[.int .i64 B,.int .i64 C,.int .i64 D,.int .i64 H,.int .i64 w4,.int .i64 I,.int .i64 M,.int .i64 N,.int .i64 w8]⟩)] []) {val:=.Ψ [.own 0 (cI L W).length,.v (.bool (ln L W))],new:=[.row ε (cI L W).length 9 (J (Y (cI L W))) 112],ap:=[ak m g,ο (m<=2^38)]}):=by
   rintro n b G rfl rfl hG;exact Φ ⟨_,rfl,rfl,.cons (Ξ.row λj a=>(aN X j a).symm) (.cons (Ξ.row hG) .nil)⟩
  have o:(∀x,L[df L W.s]?=γ x->x.s≠W.s)->(cI L W).length=m+1/\ln L W=bz W.r/\∀j,j<m+1->∀i,i<9->(bif Δ j (df L W.s+1)then bif Δ j (df L W.s)then ξ g j i else fU W i else ξ g (df L W.s+(j-(df L W.s+1))) i)=Y (cI L W) j i:=by
   intro hn;obtain⟨p,c,r⟩:=agT hn;refine⟨by rw[p,k],r,λj a i hi=>?_⟩;have w:∀q:O,q<m->fU (bm (ξ g q)) i=ξ g q i:=λq _=>by rcases(by omega:i=0\/i=1\/i=2\/i=3\/i=4\/i=5\/i=6\/i=7\/i=8)with rfl|rfl|rfl|rfl|rfl|rfl|rfl|rfl|rfl<;>rfl
   rcases Nat.lt_trichotomy j (df L W.s)with h|h|h
   ·have s:Δ j (df L W.s+1)=ε:=by rw[bS];omega
    have T:Δ j (df L W.s)=ε:=by rw[bS];omega
    simp only[Y,c j,aP h,s,T,aZ,d j (by omega),w j (by omega)]
   ·have s:Δ j (df L W.s+1)=ε:=by rw[bS];omega
    have T:Δ j (df L W.s)=η:=by rw[<-Dl,bS];omega
    simp only[Y,c j,bi (show ¬j<df L W.s by omega),aP h,s,T,aZ,a_]
   ·have s:Δ j (df L W.s+1)=η:=by rw[<-Dl,bS];omega
    have e:df L W.s+(j-(df L W.s+1))=j-1:=by omega
    simp only[Y,c j,bi (show ¬j<df L W.s by omega),bi (show ¬j=df L W.s by omega),s,a_,e,d (j-1) (by omega),w (j-1) (by omega)]
  refine ag (by rw[F];exact⟨cg ⟨rfl,ab.refl _⟩,rfl⟩) (ay (λy=>?_) λy=>?_)
  ·have y:=aL y
   have t:df L W.s<m:=by omega
   refine ag (by simp only[F,ah,aa,aB];omega) (ay (λu=>?_) λu=>?_)
   ·have u:ξ g (df L W.s) 0=W.s:=by simpa[fU]using u
    obtain⟨p,c,r⟩:=agW (d _ t) u;refine ag (by simp only[F,ah,aa,aB,aT];omega) (l _ _ _ (by rw[p,k]) ?_ λj a=>?_)
    ·rw[r]
     show bz (bC (lW _ 1 _))=bz (bC (qp _ _))
     rw[adK];rfl
    ·by_cases f:j=df L W.s
     ·have e4:=c j
      rw[aP f,f]at e4;simp only[J,Y,f,e4,h_,aZ,lW,zu];rfl
     ·have s:ai j (df L W.s)=η:=by
       cases hb:ai j (df L W.s)with
       |false=>rfl
       |true=>exact(f (ci hb)).elim
      simp only[J,Y,c j,bi f,s,a_,d j a];rfl
   ·have u:ξ g (df L W.s) 0≠W.s:=by simpa[fU]using u
    obtain⟨p,r,c⟩:=o λx A=>by rw[d _ t]at A;cases A;exact u
    refine ag (by simp only[F,ah,aa,aB,aT];omega) (l _ _ _ (by rw[p];omega) (by rw[r,<-P];rfl) λj a=>?_);have a:j<m+1:=by omega
    simp only[J,c j a 0 (by omega),c j a 1 (by omega),c j a 2 (by omega),c j a 3 (by omega),c j a 4 (by omega),c j a 5 (by omega),c j a 6 (by omega),c j a 7 (by omega),c j a 8 (by omega),ι]
  ·have y:=cE y
   have t:¬df L W.s<m:=by omega
   obtain⟨p,r,c⟩:=o λx A=>by have:=(eV.1 A).1;omega
   refine ag (by simp only[F,ah,aa,aB,aT];omega) (l _ _ _ (by rw[p];omega) (by rw[r,<-P];rfl) λj a=>?_);have a:j<m+1:=by omega
   simp only[J,c j a 0 (by omega),c j a 1 (by omega),c j a 2 (by omega),c j a 3 (by omega),c j a 4 (by omega),c j a 5 (by omega),c j a 6 (by omega),c j a 7 (by omega),c j a 8 (by omega),ι]
 ·cases z
def xC(a:(O->Z)->κ):aE:=ext m4 106 (aS (m2 a))
abbrev xY:Ex->E O:=cx [0,3] [] [2]
abbrev m6(m:O)(f:ω)(t:ae):E AB:=[.row η m 9 (J f) t]
abbrev y5(m i:O):E AV:=[.sl 0 9 0 0 m ζ,.v (ι i)]
def amP(d:(O->Z)->κ)(m:O)(f:ω)(t:ae)(i:O):let c:=[AB.row η m 9 (J f) t];let b:=(↑i:Z);let e:=[vB η];let a:=(0+a5 b);let g:=[ο (b<(m:Z)),ο (0+a5 b<m)];a0 θ (xC d) 100 K (a4 0 PT) (aw 0 29 ((xY .normal).zip (y5 m i))) (m6 m f t) (cJ 29 xY 1)
 =bif ο (b<(m:Z))then Ω g (bif !aD (f a 0) (-1000:Z) (1000:Z)then rO e c else Ω g (bif !d (v8 (f a 1) (f a 2) (f a 3) (f a 4) (f a 5) (f a 6) (f a 7) (f a 8))then rO e c else ao.out .normal [AV.sl 0 9 0 0 m ζ,vI (aj .i64 (b+(1:Z)))] c))else ao.out (Ex.exit 0) [] c:=by intros;kernel_rfl
noncomputable abbrev LK(m:O)(f:ω)(t:ae)(bad:O->κ):O->χ Sum:=bJ 0 (bD 29 (xY .normal) 1 (y5 m 0) (m6 m f t) (λa=>cond (bU bad m) (a .normal (aw 0 29 []) (m6 m f t)) (a .ret (aw 0 29 [(2,.v (.bool η))]) (m6 m f t))))
def aqE(c:(O->Z)->κ)(m:O)(f:ω)(t:ae)(bad:O->κ):let a:=[AB.row η m 9 (J f) t];let b:=[vB η];ad θ (xC c) (LK m f t bad) 100 PT [.sl 0 9 0 0 m ζ] (m6 m f t) (af 1)
 =bif ο ((m:Z)> (12:Z))then rO b a else Ω [cw ([AV.sl 0 9 0 0 m ζ,vI 0]=y5 m 0/\ab a (m6 m f t))] (bif bU bad m then rO [vB ε] a else rO b a):=by intros;kernel_rfl
def nQ(a:(O->Z)->κ)(f:ω)(i:O):κ:= !(aD (f i 0) (-1000) 1000&&a (v8 (f i 1) (f i 2) (f i 3) (f i 4) (f i 5) (f i 6) (f i 7) (f i 8)))
def aoM{b:(O->Z)->κ}(h:aK θ (xC b))(m:O)(f:ω)(t:ae)(s:m<=2^40):cp θ 1 (.block 0 (.loop (a4 0 PT))) (bD 29 (xY .normal) 1 (y5 m 0) (m6 m f t) (λa=>cond (bU (nQ b f) m) (a .normal (aw 0 29 []) (m6 m f t)) (a .ret (aw 0 29 [(2,.v (.bool η))]) (m6 m f t)))):=by
 refine dQ h (n:=100) (m:=1) (lv:=xY) (λi=>y5 m i) (λ_=>m6 m f t) (λi=>bU (nQ b f) i=ε) m (λ_=>K) (du rfl rfl rfl) (aR _) rfl λa Q g i k p=>⟨cT _ _ _,?_⟩
 rw[amP];refine ay (λc=>?_) λc=>?_
 ·have c:=aL c
  have d:i<m:=by omega
  have e:nQ b f i=ε->aC (.out .ret [.v (.bool η)] [.row η m 9 (J f) t]) (z6 29 0 xY (λi=>y5 m i) (λ_=>m6 m f t) (λq=>q=i+1/\i<m/\bU (nQ b f) (i+1)=ε) a Q):=λr=>by refine Φ ⟨_,ab.refl _,?_⟩;rw[og d r]at g;exact g
  rw[cY,bF,bR (x:=(i:Z)+1) (by omega)];have l:aJ [ο ((i:Z)<m),ο (i<m)]=ε:=by simp only[F,ah,aa,aB];omega
  refine ag l ?_;cases j:aD (f i 0) (-1000) 1000 with
  |false=>exact e (by simp only[nQ,j];rfl)
  |true=>
   refine ag l ?_;cases o:b (v8 (f i 1) (f i 2) (f i 3) (f i 4) (f i 5) (f i 6) (f i 7) (f i 8))with
   |false=>exact e (by simp only[nQ,j,o];rfl)
   |true=>exact Φ ⟨i+1,⟨rfl,d,qj k (by simp only[nQ,j,o];rfl)⟩,rfl,ab.refl _⟩
 ·have c:=cE c
  have:i=m:=by omega
  subst this;refine Φ ⟨_,ab.refl _,?_⟩;rw[aP rfl];rw[k]at g;exact g
def S3:aK θ (xC (λv=>bz (bC v))):=by unfold xC;rw[pW];exact az p0 Ce
def aG(L:E Wh):κ:=ο (L.length<=12)&&L.all λw=>aD w.s (-1000) 1000&&bz w.r
def VF(f:ω)(m:O):aG (V f m)=(ο (m<=12)&&bU (nQ (λv=>bz (bC v)) f) m):=by
 simp only[aG,ch]
 congr 1
 simp only[V,bU,List.all_map]
 congr 1
 funext j
 simp only[Hw,nQ,Bool.not_not];rfl
def bP:E Md:=[.rd 9 112]
def ui:E SA->χ FR
 |[.row m g]=>γ {val:=.v (.bool (aG (V (ξ g) m))),ap:=[ak m g,ο (m<=2^39)]}
 |_=>ζ
def yj:au θ 95 (am bP ui):=by
 refine bY S3 func95 rfl λk r d h=>?_
 unfold ui at d;split at d
 ·rename_i m g
  cases d;simp only[F]at h;obtain⟨i,l,_⟩:=h;have s:=aL l;refine⟨m6 m (ξ g) 112,LK m (ξ g) 112 (nQ (λv=>bz (bC v)) (ξ g)),100,.cons (Ξ.row λj f=>aN i j f) .nil,cz (by kernel_rfl) (aoM S3 m (ξ g) 112 (by omega)),?_⟩;show aC (ad θ (xC (λv=>bz (bC v))) (LK m (ξ g) 112 (nQ (λv=>bz (bC v)) (ξ g))) 100 PT [.sl 0 9 0 0 m ζ] (m6 m (ξ g) 112) (af 1)) _
  rw[aqE];have a:∀b,aG (V (ξ g) m)=b->aC (.out .ret [.v (.bool b)] [.row η m 9 (J (ξ g)) 112]) (dV (bI bP [.row m g] []) {val:=.v (.bool (aG (V (ξ g) m))),ap:=[ak m g,ο (m<=2^39)]}):=λb p=>Φ ⟨_,rfl,by rw[p],.cons (Ξ.row λj f=>(aN i j f).symm) .nil⟩
  have e:=VF (ξ g) m;refine ay (λc=>?_) λc=>?_
  ·have c:=aL c
   have:ο (m<=12)=η:=eJ (by omega);exact a η (e.trans (by rw[this];rfl))
  ·have c:=cE c
   have:ο (m<=12)=ε:=bA (by omega);refine ag (by rw[F];exact⟨cg ⟨rfl,ab.refl _⟩,rfl⟩) (ay (λq=>?_) λq=>?_)
   ·exact a ε (e.trans (by rw[this];exact q))
   ·exact a η (e.trans (by rw[this];exact q))
 ·cases d
abbrev BF:Ex->E O:=cx [0,1,6,7] [1,6] [4,5]
abbrev jC(m:O)(f:ω)(t:ae)(n:O)(h:ω):E AB:=[.row η m 9 (J f) t,.row ε n 9 (J h) 112]
abbrev vK(m:O)(b:κ)(n i:O):E AV:=[.sl 0 9 0 0 m ζ,.v (.bool b),.own 1 n,.v (ι i)]
def amQ(m:O)(b:κ)(f:ω)(t:ae)(n:O)(h:ω)(i:O):let d:=(↑i:Z);let c:=(0:Z);let g:=vI (aj .i64 (d+(1:Z)));let j:=ο (0+a5 d<m);let k:=AB.row η m 9 (J f) t;let e:=AV.v (.bool b);let l:=ο (d<(m:Z));let o:=AV.sl 0 9 0 0 m ζ;let a:=(0+a5 d);let p:=[k,AB.row ε n 9 (J h) 112];a0 θ g0 100 K (a4 0 PE) (aw 0 38 ((BF .normal).zip (vK m b n i))) (jC m f t n h) (cJ 38 BF 1)
 =bif ο (d<(m:Z))then Ω [l,j] (bif !(f a 1==c&&(f a 2==c&&(f a 3==c&&(f a 4==c&&(f a 5==c&&(f a 6==c&&(f a 7==c&&(f a 8==c&&ε)))))))&&ε)then Ω [l,j,Θ n n,Θ (n+1) 549755813888] (ao.out .normal [o,e,AV.own 1 (n+1),g] [k,AB.row ε (n+1) 9 (λq=>[ι (bif Δ q n then h q 0 else f a 0),ι (bif Δ q n then h q 1 else f a 1),ι (bif Δ q n then h q 2 else f a 2),ι (bif Δ q n then h q 3 else f a 3),ι (bif Δ q n then h q 4 else f a 4),ι (bif Δ q n then h q 5 else f a 5),ι (bif Δ q n then h q 6 else f a 6),ι (bif Δ q n then h q 7 else f a 7),ι (bif Δ q n then h q 8 else f a 8)]) 112])else ao.out .normal [o,e,AV.own 1 n,g] p)else ao.out (Ex.exit 0) [e,AV.own 1 n] p:=by intros;kernel_rfl
def KT:aE:=ext g0 95 (am bP ui)
noncomputable abbrev LL(m:O)(b:κ)(f:ω)(t:ae)(n:O)(h:ω):O->χ Sum:=bJ 0 (bD 38 (BF .normal) 1 (vK m b 0 0) (jC m f t 0 (Y [])) (λa=>a .normal (aw 0 38 [(1,.v (.bool b)),(6,.own 1 n)]) (jC m f t n h)))
def aqN(m:O)(b:κ)(f:ω)(t:ae)(n:O)(h:ω):let c:=[AV.Ψ [AV.own 1 0,vB η]];let d:=AB.row η m 9 (J f) t;let a:=[d,AB.row ε 0 9 (λ_=>[]) 112];ad θ KT (LL m b f t n h) 100 PE [.sl 0 9 0 0 m ζ,.v (.bool b)] [.row η m 9 (J f) t] (af 1)
 =Ω [cw ([AV.sl 0 9 0 0 m ζ,AV.v (.bool b),AV.own 1 0,vI 0]=vK m b 0 0/\ab a (jC m f t 0 (Y [])))] (bif !b then rO c a else Ω [Θ n n,ak n (J h),ο (n<=549755813888)] (bif !aG (V (ξ (J h)) n)then rO c a else rO [AV.Ψ [AV.own 1 n,vB ε]] [d,AB.row ε n 9 (J h) 112])):=by intros;kernel_rfl
def rZ(L:E Wh)(f:aQ)(j:O)(a:j<L.length+1)(k:O)(c:k<9):(bif Δ j L.length then Y L j k else f k)=Y (L++[bm f]) j k:=by
 rcases nG j L.length with h|h
 ·have b:Δ j L.length=ε:=by rw[bS];exact h
  rw[b,aZ];simp only[Y,km h]
 ·have:j=L.length:=by omega
  subst this;have b:Δ L.length L.length=η:=by rw[<-Dl,bS];omega
  rw[b,a_];simp only[Y,pz (aR _),HP,kn];rcases(by omega:k=0\/k=1\/k=2\/k=3\/k=4\/k=5\/k=6\/k=7\/k=8)with rfl|rfl|rfl|rfl|rfl|rfl|rfl|rfl|rfl<;>rfl
def Xa(L:E Wh)(f:aQ)(j:O)(a:j<L.length+1):[ι (bif Δ j L.length then Y L j 0 else f 0),ι (bif Δ j L.length then Y L j 1 else f 1),ι (bif Δ j L.length then Y L j 2 else f 2),ι (bif Δ j L.length then Y L j 3 else f 3),ι (bif Δ j L.length then Y L j 4 else f 4),ι (bif Δ j L.length then Y L j 5 else f 5),ι (bif Δ j L.length then Y L j 6 else f 6),ι (bif Δ j L.length then Y L j 7 else f 7),ι (bif Δ j L.length then Y L j 8 else f 8)]=J (Y (L++[bm f])) j:=by simp only[J,rZ L f j a 0 (by omega),rZ L f j a 1 (by omega),rZ L f j a 2 (by omega),rZ L f j a 3 (by omega),rZ L f j a 4 (by omega),rZ L f j a 5 (by omega),rZ L f j a 6 (by omega),rZ L f j a 7 (by omega),rZ L f j a 8 (by omega)]
def gJ(f:aQ):κ:=(f 1==0&&(f 2==0&&(f 3==0&&(f 4==0&&(f 5==0&&(f 6==0&&(f 7==0&&(f 8==0&&ε))))))))&&ε
def UC(f:aQ):gJ f=ο ((bm f).r=jj):=by rw[kk];simp[gJ,bm,jj]
def B8{f:O->O->Z}{i:O}(h:gJ (f i)=ε):bO (V f (i+1))=bO (V f i):=by rw[UC,aB]at h;rw[gw,bO,List.filter_append,O6 (by simp[h])];simp[bO]
def B7{f:O->O->Z}{i:O}(h:gJ (f i)=η):bO (V f (i+1))=bO (V f i)++[bm (f i)]:=by rw[UC,decide_eq_false_iff_not]at h;rw[gw,bO,List.filter_append,O7 (by simp[h])];simp[bO]
def vh(f:ω)(i:O):(bO (V f i)).length<=i:=by
 have:=atO (λw:Wh=>ο (w.r≠jj)) (V f i)
 rwa [ch]at this
def aoN(m:O)(b:κ)(f:ω)(t:ae)(k:m<=2^38):cp θ 1 (.block 0 (.loop (a4 0 PE))) (bD 38 (BF .normal) 1 (vK m b 0 0) (jC m f t 0 (Y [])) (λa=>a .normal (aw 0 38 [(1,.v (.bool b)),(6,.own 1 (bO (V f m)).length)]) (jC m f t (bO (V f m)).length (Y (bO (V f m)))))):=by
 refine dQ bt (n:=100) (m:=1) (lv:=BF) (λi=>vK m b (bO (V f i)).length i) (λi=>jC m f t (bO (V f i)).length (Y (bO (V f i)))) (λ_=>True) m (λ_=>K) (du rfl rfl rfl) (aR _) trivial λa Q e i o g=>⟨cT _ _ _,?_⟩
 have p:=vh f i;rw[amQ];refine ay (λc=>?_) λc=>?_
 ·have c:=aL c
  have d:i<m:=by omega
  rw[cY,bF,bR (x:=(i:Z)+1) (by omega)];refine ag (by simp only[F,ah,aa,aB];omega) ?_;show aC (cond (!(gJ (f i))) _ _) _
  cases q:gJ (f i)with
  |true=>
   refine Φ ⟨i+1,⟨rfl,d,trivial⟩,?_,?_⟩
   ·show _=vK m b (bO (V f (i+1))).length (i+1)
    rw[B8 q];rfl
   ·show ab _ (jC m f t (bO (V f (i+1))).length (Y (bO (V f (i+1)))))
    rw[B8 q];exact ab.refl _
  |false=>
   refine ag (by simp only[F,ah,aa,aB,aT];omega) (Φ ⟨i+1,⟨rfl,d,trivial⟩,?_,?_⟩)
   ·show _=vK m b (bO (V f (i+1))).length (i+1)
    rw[B7 q,cv];rfl
   ·show ab _ (jC m f t (bO (V f (i+1))).length (Y (bO (V f (i+1)))))
    rw[B7 q,cv];exact .cons (Ξ.refl _) (.cons (Ξ.row λj h=>Xa _ _ j h) .nil)
 ·have c:=cE c
  have:i=m:=by omega
  subst this;refine Φ ⟨_,ab.refl _,?_⟩;rw[aP rfl];exact e
def af2:aK θ KT:=az bt yj
def ajp(L:E Wh):aG L=gc L:=rfl
def nY(b:κ)(L:E Wh):E Wh:=bif b&&gc (bO L)then bO L else[]
def Ir:E SA->χ FR
 |[.row m g,.v (.bool b)]=>γ {val:=.Ψ [.own 0 (nY b (V (ξ g) m)).length,.v (.bool (b&&gc (bO (V (ξ g) m))))],new:=[.row ε (nY b (V (ξ g) m)).length 9 (J (Y (nY b (V (ξ g) m)))) 112],ap:=[ak m g,ο (m<=2^38)]}
 |_=>ζ
def akb:au θ 168 (am dy Ir):=by
 refine bY af2 func168 rfl λi s e f=>?_
 unfold Ir at e;split at e
 ·rename_i m g b
  cases e;simp only[F]at f;obtain⟨h,k,_⟩:=f;have l:=aL k;have t:=vh (ξ g) m;refine⟨[.row η m 9 (J (ξ g)) 112],LL m b (ξ g) 112 (bO (V (ξ g) m)).length (Y (bO (V (ξ g) m))),100,.cons (Ξ.row λj a=>aN h j a) .nil,cz (by kernel_rfl) (aoN m b (ξ g) 112 l),?_⟩;show aC (ad θ KT (LL m b (ξ g) 112 (bO (V (ξ g) m)).length (Y (bO (V (ξ g) m)))) 100 PE [.sl 0 9 0 0 m ζ,.v (.bool b)] [.row η m 9 (J (ξ g)) 112] (af 1)) _
  rw[aqN,cb,s7,ajp];generalize V (ξ g) m=L at*;have d:∀(D:E Wh)(c:κ)(G:O->E τ),(b&&gc (bO L))=c->nY b L=D->(∀j,j<D.length->G j=J (Y D) j)->aC (.out .ret [.Ψ [.own 1 D.length,.v (.bool c)]] [.row η m 9 (J (ξ g)) 112,.row ε D.length 9 G 112])
    (dV (bI dy [.row m g,.v (.bool b)] []) {val:=.Ψ [.own 0 (nY b L).length,.v (.bool (b&&gc (bO L)))],new:=[.row ε (nY b L).length 9 (J (Y (nY b L))) 112],ap:=[ak m g,ο (m<=2^38)]}):=by
   rintro D c G rfl rfl r;exact Φ ⟨_,rfl,rfl,.cons (Ξ.row λj a=>(aN h j a).symm) (.cons (Ξ.row r) .nil)⟩
  refine ag (by rw[F];exact⟨cg ⟨rfl,.cons (Ξ.refl _) (.cons (Ξ.row λj a=>by omega) .nil)⟩,rfl⟩) ?_;cases b with
  |false=>exact d [] η _ rfl rfl λj a=>aO a (cN _)
  |true=>
   refine ag (by simp only[F,ah,aa,aB,aT,bw,bo,aR];omega) ?_;refine ay (λq=>?_) λq=>?_
   ·have q:gc (bO L)=η:=by simpa using q
    exact d [] η _ (by rw[q];rfl) (by rw[nY,q];rfl) λj a=>aO a (cN _)
   ·have q:gc (bO L)=ε:=by simpa using q
    exact d (bO L) ε _ (by rw[q];rfl) (by rw[nY,q];rfl) λj a=>rfl
 ·cases e
def F0:aE:=ext g0 167 (am dy Iv)
def K':aE:=ext F0 168 (am dy Ir)
abbrev BW:Ex->E O:=cx [0,4,5] [4] [2,3]
abbrev y9(m n i:O):E AV:=[.sl 0 9 0 0 m ζ,.own 1 n,.v (ι i)]
def anm(m:O)(f:ω)(t:ae)(n:O)(h:ω)(i:O):let c:=(V (ξ (J h)) n);let d:=AB.row η m 9 (J f) t;let b:=(↑i:Z);let a:=(0+a5 b);let e:=(Wh.mk (f a 0) (Cy.mk (f a 1) (f a 2) (f a 3) (f a 4) (f a 5) (f a 6) (f a 7) (f a 8)));let g:=(b_ (cI c e));a0 θ F0 100 K (a4 0 PU) (aw 0 32 ((BW .normal).zip (y9 m n i))) (jC m f t n h) (cJ 32 BW 1)
 =bif ο (b<(m:Z))then Ω [ο (b<(m:Z)),ο (0+a5 b<m),Θ n n,ak n (J h),ο (n<=274877906944)] (bif !ln c e then rO [AV.own 1 0,vB η] [d,AB.row ε 0 9 (λ_=>[]) 112]else ao.out .normal [AV.sl 0 9 0 0 m ζ,AV.own 1 g,vI (aj .i64 (b+(1:Z)))] [d,AB.row ε g 9 (J (Y (cI c e))) 112])else ao.out (Ex.exit 0) [AV.own 1 n] [d,AB.row ε n 9 (J h) 112]:=by intros;kernel_rfl
noncomputable abbrev L3(m:O)(f:ω)(t:ae)(c:κ)(n:O)(h:ω):O->χ Sum:=bJ 0 (bD 32 (BW .normal) 1 (y9 m 0 0) (jC m f t 0 (Y [])) (λa=>cond c (a .normal (aw 0 32 [(4,.own 1 n)]) (jC m f t n h)) (a .ret (aw 0 32 [(2,.own 1 0),(3,.v (.bool η))]) (jC m f t 0 (Y [])))))
def arZ(m:O)(f:ω)(t:ae)(c:κ)(n:O)(h:ω):let a:=AB.row η m 9 (J f) t;let d:=(V (ξ (J h)) n);let b:=(nY ε d);ad θ K' (L3 m f t c n h) 100 PU [.sl 0 9 0 0 m ζ] [.row η m 9 (J f) t] (af 1)
 =Ω [cw ([AV.sl 0 9 0 0 m ζ,AV.own 1 0,vI 0]=y9 m 0 0/\ab [a,AB.row ε 0 9 (λ_=>[]) 112] (jC m f t 0 (Y [])))] (bif c then Ω [Θ n n,ak n (J h),ο (n<=274877906944)] (rO [AV.Ψ [AV.own 1 (b_ b),AV.v (.bool (gc (bO d)))]] [a,AB.row ε (b_ b) 9 (J (Y b)) 112])else rO [AV.Ψ [AV.own 1 0,vB η]] [a,AB.row ε 0 9 (J (Y [])) 112]):=by intros;kernel_rfl
def Nx(a:E Wh->Wh->E Wh):∀(xs acc:E Wh)(w:Wh),runT a acc (xs++[w])=match runT a acc xs with
  |some A=>if bz (dR A w)=ε then γ (a A w)else ζ
  |none=>ζ
 |[],acc,w=>by simp only[mO,runT]
 |x::xs,acc,w=>by
  simp only[oD,runT];split
  ·exact Nx a xs _ w
  ·rfl
def Nw(a:E Wh->Wh->E Wh):∀(xs b acc:E Wh),runT a acc xs=ζ->runT a acc (xs++b)=ζ
 |[],b,acc,h=>by simp[runT]at h
 |x::xs,b,acc,h=>by
  simp only[oD,runT]at h⊢;split
  ·rename_i c
   rw[aP c]at h;exact Nw a xs b _ h
  ·rfl
def Xp:∀{xs acc A:E Wh},rising acc->runT cI acc xs=γ A->rising A
 |[],acc,A,a,h=>by simp only[runT,ar]at h;subst h;exact a
 |x::xs,acc,A,a,h=>by
  simp only[runT]at h;split at h
  ·exact Xp (Lv x a) h
  ·cases h
def agS(acc:E Wh)(x:Wh):(cI acc x).length<=acc.length+1:=by
 induction acc with
 |nil=>simp[cI]
 |cons y l a=>
  unfold cI;split
  ·simp only[cn]
   omega
  ·split<;>simp
def Nv:∀{xs acc A:E Wh},runT cI acc xs=γ A->A.length<=acc.length+xs.length
 |[],acc,A,h=>by simp only[runT,ar]at h;subst h;simp
 |x::xs,acc,A,h=>by
  simp only[runT]at h;split at h
  ·have:=Nv h
   have a:=agS acc x;simp only[cn];omega
  ·cases h
def Mb(f:ω){i m:O}(h:i<=m):∃a,V f m=V f i++a:=by
 induction m with
 |zero=>exact⟨[],by rw[show i=0 by omega];simp⟩
 |succ m c=>
  rcases nG m i with b|b
  ·exact⟨[],by rw[show i=m+1 by omega];simp⟩
  ·obtain⟨a,e⟩:=c b
   exact⟨a++[bm (f m)],by rw[gw,e,lZ]⟩
def lG(f:ω)(i:O):E Wh:=(runT cI [] (V f i)).getD []
def Eu{f:O->O->Z}{i:O}{A:E Wh}(h:runT cI [] (V f i)=γ A):lG f i=A:=by rw[lG,h];rfl
def apd(m:O)(f:ω)(t:ae)(v:m<=2^38)(k:aK θ F0):cp θ 1 (.block 0 (.loop (a4 0 PU))) (bD 32 (BW .normal) 1 (y9 m 0 0) (jC m f t 0 (Y [])) (λa=>cond (runT cI [] (V f m)).isSome (a .normal (aw 0 32 [(4,.own 1 (lG f m).length)]) (jC m f t (lG f m).length (Y (lG f m)))) (a .ret (aw 0 32 [(2,.own 1 0),(3,.v (.bool η))]) (jC m f t 0 (Y []))))):=by
 refine dQ k (n:=100) (m:=1) (lv:=BW) (λi=>y9 m (lG f i).length i) (λi=>jC m f t (lG f i).length (Y (lG f i))) (λi=>(runT cI [] (V f i)).isSome=ε) m (λ_=>K) (du rfl rfl rfl) (aR _) rfl λa Q h i p r=>⟨cT _ _ _,?_⟩
 obtain⟨A,d⟩:=r9.1 p;have o:=Eu d;have y:A.length<=i:=by have:=Nv d;rw[ch]at this;simpa using this
 have b:rising A:=Xp wh d;have c:runT cI [] (V f (i+1))=if bz (dR A (bm (f i)))=ε then γ (cI A (bm (f i)))else ζ:=by rw[gw,Nx,d]
 rw[anm,cb,s7,o];refine ay (λg=>?_) λg=>?_
 ·have g:=aL g
  have l:i<m:=by omega
  rw[cY,bF,bR (x:=(i:Z)+1) (by omega)];rw[show Wh.mk (f i 0) (Cy.mk (f i 1) (f i 2) (f i 3) (f i 4) (f i 5) (f i 6) (f i 7) (f i 8))=bm (f i)from rfl,ajs b];refine ag (by simp only[F,ah,aa,aB,aT,bw,aR,bo];omega) (ay (λq=>?_) λq=>?_)
  ·have q:¬bz (dR A (bm (f i)))=ε:=by simpa using q
   rw[bi q]at c;obtain⟨z,e⟩:=Mb f (show i+1<=m by omega);have s:runT cI [] (V f m)=ζ:=by rw[e];exact Nw _ _ _ _ c
   rw[s]at h;exact Φ ⟨_,.cons (Ξ.refl _) (.cons (Ξ.row λj u=>aO u (cN _)) .nil),h⟩
  ·have q:bz (dR A (bm (f i)))=ε:=by simpa using q
   rw[aP q]at c;refine Φ ⟨i+1,⟨rfl,l,by rw[c];rfl⟩,?_,?_⟩
   ·show _=y9 m (lG f (i+1)).length (i+1)
    rw[Eu c];rfl
   ·show ab _ (jC m f t (lG f (i+1)).length (Y (lG f (i+1))))
    rw[Eu c];exact ab.refl _
 ·have g:=cE g
  have:i=m:=by omega
  subst this;refine Φ ⟨_,ab.refl _,?_⟩;rw[aP rfl];rw[d,o]at h;exact h
def Tr:aK θ F0:=az bt akD
def agl:aK θ K':=az Tr akb
def bv(L:E Wh):E Wh:=(im L).getD []
def Iz:E SA->χ FR
 |[.row m g]=>γ {val:=.Ψ [.own 0 (bv (V (ξ g) m)).length,.v (.bool (im (V (ξ g) m)).isSome)],new:=[.row ε (bv (V (ξ g) m)).length 9 (J (Y (bv (V (ξ g) m)))) 112],ap:=[ak m g,ο (m<=2^38)]}
 |_=>ζ
def Gz:au θ 96 (am bP Iz):=by
 refine bY agl func96 rfl λk w e f=>?_
 unfold Iz at e;split at e
 ·rename_i m g
  cases e;simp only[F]at f;obtain⟨i,l,_⟩:=f;have n:=aL l;refine⟨[.row η m 9 (J (ξ g)) 112],L3 m (ξ g) 112 (runT cI [] (V (ξ g) m)).isSome (lG (ξ g) m).length (Y (lG (ξ g) m)),100,.cons (Ξ.row λj a=>aN i j a) .nil,cz (by kernel_rfl) (apd m (ξ g) 112 n Tr),?_⟩;show aC (ad θ K' (L3 m (ξ g) 112 (runT cI [] (V (ξ g) m)).isSome (lG (ξ g) m).length (Y (lG (ξ g) m))) 100 PU [.sl 0 9 0 0 m ζ] [.row η m 9 (J (ξ g)) 112] (af 1)) _
  rw[arZ,cb,s7];have d:∀(D:E Wh)(c:κ)(G:O->E τ),(im (V (ξ g) m)).isSome=c->bv (V (ξ g) m)=D->(∀j,j<D.length->G j=J (Y D) j)->aC (.out .ret [.Ψ [.own 1 D.length,.v (.bool c)]] [.row η m 9 (J (ξ g)) 112,.row ε D.length 9 G 112])
    (dV (bI bP [.row m g] []) {val:=.Ψ [.own 0 (bv (V (ξ g) m)).length,.v (.bool (im (V (ξ g) m)).isSome)],new:=[.row ε (bv (V (ξ g) m)).length 9 (J (Y (bv (V (ξ g) m)))) 112],ap:=[ak m g,ο (m<=2^38)]}):=by
   rintro D c G rfl rfl s;exact Φ ⟨_,rfl,rfl,.cons (Ξ.row λj a=>(aN i j a).symm) (.cons (Ξ.row s) .nil)⟩
  refine ag (by rw[F];exact⟨cg ⟨rfl,.cons (Ξ.refl _) (.cons (Ξ.row λj a=>by omega) .nil)⟩,rfl⟩) ?_;refine ay (λq=>?_) λq=>?_
  ·obtain⟨A,b⟩:=r9.1 q
   have t:=Eu b;have x:A.length<=m:=by have:=Nv b;rw[ch]at this;simpa using this
   have u:(im (V (ξ g) m)).isSome=gc (bO A):=by unfold im;rw[b];cases h:gc (bO A)<;>simp[h]
   have v:bv (V (ξ g) m)=nY ε A:=by unfold bv im nY;rw[b];cases h:gc (bO A)<;>simp[h]
   rw[t];exact ag (by simp only[F,ah,aa,aB,aT,bw,bo,aR];omega) (d _ _ _ u v λj a=>rfl)
  ·have b:runT cI [] (V (ξ g) m)=ζ:=by
    cases h:runT cI [] (V (ξ g) m)with
    |none=>rfl
    |some A=>rw[h]at q;cases q
   exact d [] η _ (by unfold im;rw[b];rfl) (by unfold bv im;rw[b];rfl) λj a=>aO a (cN _)
 ·cases e
def aiU(a b:aQ):∀k,k<8->ep a (fK b) k=fK (ep a b) k:=by
 obtain⟨c,n⟩:=zj (0-b 7);obtain⟨d,o⟩:=zj (b 3+b 7);have e:fK b 0=0-b 7+18446744073709551616*c:=n;have f:fK b 4=b 3+b 7+18446744073709551616*d:=o;have g:fK b 1=b 0:=rfl;have h:fK b 2=b 1:=rfl;have i:fK b 3=b 2:=rfl;have j:fK b 5=b 4:=rfl;have l:fK b 6=b 5:=rfl;have m:fK b 7=b 6:=rfl;refine lf ?_ ?_ ?_ ?_ ?_ ?_ ?_ ?_
 ·show W _=W (0-W (bE a b 7))
  rw[Hg,show bE a (fK b) 0=0-bE a b 7+18446744073709551616*(c*a 0-d*a 4) by simp only[bE,dm,e,g,h,i,f,j,l,m];grind,ov]
 ·show W _=W (bE a b 0)
  rw[show bE a (fK b) 1=bE a b 0+18446744073709551616*(c*a 1-d*a 5) by simp only[bE,dm,e,g,h,i,f,j,l,m];grind,ov]
 ·show W _=W (bE a b 1)
  rw[show bE a (fK b) 2=bE a b 1+18446744073709551616*(c*a 2-d*a 6) by simp only[bE,dm,e,g,h,i,f,j,l,m];grind,ov]
 ·show W _=W (bE a b 2)
  rw[show bE a (fK b) 3=bE a b 2+18446744073709551616*(c*a 3-d*a 7) by simp only[bE,dm,e,g,h,i,f,j,l,m];grind,ov]
 ·show W _=W (W (bE a b 3)+W (bE a b 7))
  rw[qz,qA,show bE a (fK b) 4=bE a b 3+bE a b 7+18446744073709551616*(c*a 4+d*(a 0+a 4)) by simp only[bE,dm,e,g,h,i,f,j,l,m];grind,ov]
 ·show W _=W (bE a b 4)
  rw[show bE a (fK b) 5=bE a b 4+18446744073709551616*(c*a 5+d*(a 1+a 5)) by simp only[bE,dm,e,g,h,i,f,j,l,m];grind,ov]
 ·show W _=W (bE a b 5)
  rw[show bE a (fK b) 6=bE a b 5+18446744073709551616*(c*a 6+d*(a 2+a 6)) by simp only[bE,dm,e,g,h,i,f,j,l,m];grind,ov]
 ·show W _=W (bE a b 6)
  rw[show bE a (fK b) 7=bE a b 6+18446744073709551616*(c*a 7+d*(a 3+a 7)) by simp only[bE,dm,e,g,h,i,f,j,l,m];grind,ov]
def aor{f g:O->Z}(h:∀k,k<8->f k=g k):∀k,k<8->fK f k=fK g k:=by
 refine lf ?_ ?_ ?_ ?_ ?_ ?_ ?_ ?_
 ·show W _=W _;rw[h 7 (by omega)]
 ·exact h 0 (by omega)
 ·exact h 1 (by omega)
 ·exact h 2 (by omega)
 ·show W _=W _;rw[h 3 (by omega),h 7 (by omega)]
 ·exact h 4 (by omega)
 ·exact h 5 (by omega)
 ·exact h 6 (by omega)
def aiT{a:O->Z}(c:∀k,k<8-> -9223372036854775808<=a k/\a k<=9223372036854775807):∀k,k<8->ep a Ck k=a k:=by
 have e:∀k,k<8->bE a Ck k=a k:=by refine lf ?_ ?_ ?_ ?_ ?_ ?_ ?_ ?_<;>simp[bE,dm,Ck]
 intro k b;have:=c k b;show W (bE a Ck k)=a k
 rw[e k b,kL this.1 this.2]
def Vn{a:O->Z}(b:∀k,k<8-> -9223372036854775808<=a k/\a k<=9223372036854775807):∀(t k:O),k<8->ep a (b8 t) k=gA a t k
 |0=>aiT b
 |t+1=>λk c=>by
  show ep a (fK (b8 t)) k=fK (gA a t) k
  rw[aiU a (b8 t) k c];exact aor (Vn b t) k c
def fw(bad:O->κ)(m:O):Z:=match(dH m).find? bad with
 |some j=>(j:Z)
 |none=> -1
def xx{bad:O->κ}{m i:O}(h:bU bad i=ε)(a:i<m)(b:bad i=ε):fw bad m=i:=by
 have:(dH m).find? bad=γ i:=by rw[Z2];exact⟨b,by simpa using a,λj c=>by simp[vi h c]⟩
 rw[fw,this]
def AW{bad:O->κ}{m:O}(h:bU bad m=ε):fw bad m= -1:=by
 have:(dH m).find? bad=ζ:=by rw[wi];intro j a;simp[vi h (by simpa using a)]
 rw[fw,this]
def Fz(bad:O->κ)(m:O):(bU bad m=ε/\fw bad m= -1)\/(∃i:O,i<m/\bU bad i=ε/\bad i=ε/\bU bad m=η/\fw bad m=i):=by
 cases h:(dH m).find? bad with
 |none=>
  have:bU bad m=ε:=bX.2 λj d=>by have:=wi.1 h j d;simpa using this
  exact .inl ⟨this,AW this⟩
 |some j=>
  obtain⟨b,a,e⟩:=Z2.1 h;have a:j<m:=by simpa using a
  have c:bU bad j=ε:=bX.2 λk f=>by have:=e k (by simpa using f);simpa using this
  exact .inr ⟨j,a,c,b,og a b,xx c a b⟩
def afE(bad:O->κ)(m:O):ο (fw bad m>=0)= !bU bad m:=by
 rcases Fz bad m with⟨a,b⟩|⟨i,_,_,_,a,b⟩
 ·rw[a,b];rfl
 ·rw[a,b];simp
def B9{f g:O->κ}{m:O}(h:∀j,j<m->f j=g j):bU f m=bU g m:=by rw[kk,qi,qi];exact⟨λb j a=>by rw[<-h j a];exact b j a,λb j a=>by rw[h j a];exact b j a⟩
def KM{f g:O->κ}{m:O}(h:∀j,j<m->f j=g j):fw f m=fw g m:=by
 rcases Fz f m with⟨a,b⟩|⟨i,c,a,b,_,d⟩
 ·rw[b,AW (by rw[<-B9 h];exact a)]
 ·rw[d,xx (by rw[<-B9 λj e=>h j (by omega)];exact a) c (by rw[<-h i c];exact b)]
def rY{L:E Wh}{j:O}(a:j<L.length):Y L j=fU L[j]:=by
 funext k
 simp only[Y,cV a]
def asI{L:E Wh}{j:O}(a:L.length<=j):Y L j=λ_=>0:=by
 funext k
 simp only[Y,l0 a]
def Ox(A:E Wh)(i:O)(x:Wh)(j:O)(a:i<A.length):Y (A.set i x) j=if j=i then fU x else Y A j:=by
 funext k
 by_cases e:j=i
 ·subst e
  simp[Y,a]
 ·have b:i≠j:=λh=>e h.symm
  simp[Y,e,List.getElem?_set_ne b]
def asJ(L:E Wh)(j q:O)(h:j+1<L.length):Y (kJ L j) q=if q=j then Y L (j+1)else if q=j+1 then Y L j else Y L q:=by
 funext k
 simp only[Y,N4 L j q h];by_cases a:q=j
 ·simp only[aP a];rfl
 ·simp only[bi a]
  by_cases b:q=j+1
  ·simp only[aP b];rfl
  ·simp only[bi b];rfl
def Oy(f:aQ):∀k,k<9->fU (bm f) k=f k:=by intro k a;rcases(by omega:k=0\/k=1\/k=2\/k=3\/k=4\/k=5\/k=6\/k=7\/k=8)with rfl|rfl|rfl|rfl|rfl|rfl|rfl|rfl|rfl<;>rfl
def Ul:∀{A:E Wh}{w:Wh}{i:O}(b:i<A.length),A[i].s=w.s->(∀j (d:j<i),(A[j]'(by omega)).s≠w.s)->eG A w=A.set i ⟨w.s,ga A[i].r w.r⟩
 |[],_,_,b,_,_=>by simp at b
 |x::l,w,0,_,h,_=>by simp only[wj]at h⊢;rw[eG,aP h,h];rfl
 |x::l,w,i+1,b,h,a=>by have c:=a 0 (by omega);simp only[wj,O']at h c⊢;rw[eG,bi c,Ul (i:=i) (by simpa using b) h λj d=>by simpa using a (j+1) (by omega)];rfl
def XZ:∀{A:E Wh}{w:Wh}{i:O}(b:i<A.length),A[i].s=w.s->(∀j (d:j<i),(A[j]'(by omega)).s≠w.s)->dR A w=ga A[i].r w.r
 |[],_,_,b,_,_=>by simp at b
 |x::l,w,0,_,h,_=>by simp only[wj]at h⊢;simp[dR,jL,h]
 |x::l,w,i+1,b,h,a=>by
  have c:=a 0 (by omega);simp only[wj,O']at h c⊢;have:=XZ (A:=l) (i:=i) (by simpa using b) h λj d=>by simpa using a (j+1) (by omega)
  rw[<-this];simp[dR,jL,c]
def ao7{A:E Wh}{w:Wh}(h:∀x∈A,x.s≠w.s):dR A w=w.r:=by
 have:(A.find? λx=>ο (x.s=w.s))=ζ:=wi.2 λx a=>by simpa using h x a
 simp[dR,jL,this]
def gE(f:ω)(m j:O):E Wh:=bO (V f j)++(V f m).drop (bO (V f j)).length
def adT(f:ω){m j:O}(h:j<=m):(gE f m j).length=m:=by have:=vh f j;simp only[gE,cv,List.length_drop,ch];omega
def RV(f:ω){m j q:O}(h:j<=q)(a:q<m):∀k,k<9->Y (gE f m j) q k=f q k:=by
 intro k b;have:=vh f j;have e:(gE f m j)[q]?=γ (bm (f q)):=by rw[gE,pz (by omega),List.getElem?_drop,show(bO (V f j)).length+(q-(bO (V f j)).length)=q by omega,nb f a]
 simp only[Y,e];exact Oy (f q) k b
def adW{f:O->O->Z}{m j:O}(h:gJ (f j)=ε):gE f m (j+1)=gE f m j:=by rw[gE,gE,B8 h]
def adU{f:O->O->Z}{m j:O}(b:j<m)(h:gJ (f j)=η):gE f m (j+1)=(gE f m j).set (bO (V f j)).length (bm (f j)):=by
 have c:=vh f j;rw[gE,gE,B7 h,List.set_append_right _ _ (aR _),HP,cv,cn,gm,lZ]
 congr 1
 have a:(bO (V f j)).length<(V f m).length:=by rw[ch];omega
 rw[List.drop_eq_getElem_cons a];rfl
def Mt{f:O->O->Z}:∀{i:O},bU (λj=>gJ (f j)) i=ε->bO (V f i)=V f i
 |0,_=>rfl
 |i+1,h=>by
  have b:gJ (f i)=η:=vi (bad:=λj=>gJ (f j)) h (ft i);have c:bU (λj=>gJ (f j)) i=ε:=qi.2 λj d=>vi (bad:=λj=>gJ (f j)) h (by omega)
  rw[B7 b,Mt c,gw]
def adV{f:O->O->Z}{m i:O}(d:i<m)(h:bU (λj=>gJ (f j)) i=ε)(b:gJ (f i)=ε):gE f m (i+1)=V f m/\(bO (V f (i+1))).length=i:=by
 have e:bO (V f (i+1))=V f i:=by rw[B8 b,Mt h]
 refine⟨?_,by rw[e,ch]⟩;obtain⟨a,c⟩:=Mb f (show i<=m by omega);rw[gE,e,c,ch];have:(V f i++a).drop i=a:=by rw[List.drop_append_of_le_length (by rw[ch];omega),List.drop_eq_nil_of_le (by rw[ch];omega),mO]
 rw[this]
mutual
def mapA(f:O->χ O):AV->χ AV
 | .v x=>γ (.v x)
 | .ptr i w j k=>(f i).map λi=>.ptr i w j k
 | .sl i w j k l c=>(f i).map λi=>.sl i w j k l c
 | .own i l=>(f i).map λi=>.own i l
 | .agg b=>(s9 f b).map .agg
 | .Ψ b=>(s9 f b).map .Ψ
 | .fn g b=>(s9 f b).map (.fn g)
 | .err q=>γ (.err q)
 | .dead=>γ .dead
def s9(f:O->χ O):E AV->χ (E AV)
 |[]=>γ []
 |a::al=>match mapA f a,s9 f al with
  |some x,γ d=>γ (x::d)
  |_,_=>ζ
end
mutual
theorem VR.map{f:O->χ O}{ν k:Nu}(h:∀i s b,f i=γ s->ν i=γ b->k s=γ b):∀{a m:AV}{y:τ},mapA f a=γ m->VR ν a y->VR k m y
 | .v _,m,_,d,e=>by simp only[mapA,ar]at d;subst d;simpa only[VR]using e
 | .ptr ..,m,_,d,e=>by simp only[mapA,dt]at d;obtain⟨q,n,rfl⟩:=d;simp only[VR]at e⊢;obtain⟨b,g,j⟩:=e;exact⟨b,h _ _ _ n g,j⟩
 | .sl ..,m,_,d,e=>by simp only[mapA,dt]at d;obtain⟨q,n,rfl⟩:=d;simp only[VR]at e⊢;obtain⟨p,c,g,j,u,v⟩:=e;exact⟨p,c,g,j,u,λw=>let⟨b,z,A⟩:=v w;⟨b,h _ _ _ n z,A⟩⟩
 | .own ..,m,_,d,e=>by simp only[mapA,dt]at d;obtain⟨q,n,rfl⟩:=d;simp only[VR]at e⊢;obtain⟨b,g,j⟩:=e;exact⟨b,h _ _ _ n g,j⟩
 | .agg t,m,_,d,e=>by simp only[mapA,dt]at d;obtain⟨q,n,rfl⟩:=d;simp only[VR]at e⊢;obtain⟨l,g,j⟩:=e;exact⟨l,g,ax.map h n j⟩
 | .Ψ t,m,_,d,e=>by simp only[mapA,dt]at d;obtain⟨q,n,rfl⟩:=d;simp only[VR]at e⊢;obtain⟨l,g,j⟩:=e;exact⟨l,g,ax.map h n j⟩
 | .fn _ t,m,_,d,e=>by simp only[mapA,dt]at d;obtain⟨q,n,rfl⟩:=d;simp only[VR]at e⊢;obtain⟨l,g,j⟩:=e;exact⟨l,g,ax.map h n j⟩
 | .err _,m,_,d,e=>by simp only[mapA,ar]at d;subst d;simpa only[VR]using e
 | .dead,m,_,d,_=>by simp only[mapA,ar]at d;subst d;simp only[VR]
theorem ax.map{f:O->χ O}{ν k:Nu}(h:∀i s b,f i=γ s->ν i=γ b->k s=γ b):∀{al o:E AV}{r:E τ},s9 f al=γ o->ax ν al r->ax k o r
 |[],o,r,d,e=>by
  simp only[s9,ar]at d;subst d;cases r with
  |nil=>simp only[ax]
  |cons=>simp only[ax]at e
 |a::al,o,r,d,e=>by
  cases r with
  |nil=>simp only[ax]at e
  |cons y r=>
   simp only[ax]at e;simp only[s9]at d;split at d
   ·rename_i x B g j
    cases d;simp only[ax];exact⟨VR.map h g e.1,ax.map h j e.2⟩
   ·cases d
end
def oe(f:O->χ O):AB->χ AB
 | .cells a t=>(s9 f a).map λa=>.cells a t
 |b=>γ b
def s_(f:O->χ O):E AB->χ (E AB)
 |[]=>γ []
 |b::a=>match oe f b,s_ f a with
  |some x,γ c=>γ (x::c)
  |_,_=>ζ
def B0{f:O->χ O}:∀{bs a:E AB},s_ f bs=γ a->a.length=bs.length/\∀(j:O) b,bs[j]?=γ b->∃d,a[j]?=γ d/\oe f b=γ d
 |[],a,h=>by simp only[s_,ar]at h;subst h;exact⟨rfl,λj b c=>by simp at c⟩
 |b::bs,a,h=>by
  simp only[s_]at h;split at h
  ·rename_i x l e g
   cases h;obtain⟨i,k⟩:=B0 g;refine⟨by simp[i],λj d c=>?_⟩;cases j with
   |zero=>simp at c;subst c;exact⟨x,rfl,e⟩
   |succ j=>simpa using k j d (by simpa using c)
  ·cases h
def BR.map{f:O->χ O}{ν a:Nu}{i d:O}{b o:AB}{w:υ}(h:∀i d b,f i=γ d->ν i=γ b->a d=γ b)(k:a d=ν i)(c:oe f b=γ o)(p:BR ν i b w):BR a d o w:=by
 cases b with
 |cells y t=>simp only[oe,dt]at c;obtain⟨q,r,rfl⟩:=c;obtain⟨b,l,e,j,m,s⟩:=p;exact⟨b,l,by rw[k];exact e,j,m,s.map h r⟩
 |row u n z g t=>
  simp only[oe,ar]at c;subst c;rcases p with⟨e,j,m⟩|⟨b,l,v,x,e,j⟩
  ·exact .inl ⟨e,j,by rw[k];exact m⟩
  ·exact .inr ⟨b,l,v,x,by rw[k];exact e,j⟩
 |gone=>simp only[oe,ar]at c;subst c;trivial
def Vb{f:O->χ O}{b a:AB}(h:oe f b=γ a):a.wr=b.wr/\a.live=b.live/\(b=.gone->a=.gone):=by
 cases b with
 |cells c t=>simp only[oe,dt]at h;obtain⟨q,_,rfl⟩:=h;exact⟨rfl,rfl,λh=>by cases h⟩
 |row=>simp only[oe,ar]at h;subst h;exact⟨rfl,rfl,λh=>by cases h⟩
 |gone=>simp only[oe,ar]at h;subst h;exact⟨rfl,rfl,λ_=>rfl⟩
def lq(r:κ):AB->AB
 | .row rw n w g t=>.row (rw&& !r) n w g t
 |b=>b
def cu:E κ->E AB->E AB
 |_,[]=>[]
 |[],b::a=>b::cu [] a
 |r::c,b::a=>lq r b::cu c a
def GW:∀(a:E κ)(bs:E AB),(cu a bs).length=bs.length
 |_,[]=>by simp[cu]
 |[],b::bs=>by simp[cu,GW [] bs]
 |r::a,b::bs=>by simp[cu,GW a bs]
def GV:∀(a:E κ)(bs:E AB)(j:O),(cu a bs)[j]?=(bs[j]?).map (lq (a.getD j η))
 |_,[],j=>by simp[cu]
 |[],b::bs,0=>by cases b<;>simp[cu,lq]
 |[],b::bs,j+1=>by simpa[cu]using GV [] bs j
 |r::a,b::bs,0=>by simp[cu]
 |r::a,b::bs,j+1=>by simpa[cu]using GV a bs j
def WU{r:κ}{b:AB}(h:(lq r b).wr=ε):b.wr=ε:=by
 cases b with
 |row rw=>simp only[lq,AB.wr,aM]at h⊢;exact h.1
 |cells=>rfl
 |gone=>simp[lq,AB.wr]at h
def WT{r:κ}{b:AB}:(lq r b).live=b.live:=by cases b<;>rfl
def WS{ν:Nu}{i:O}{r:κ}{b:AB}{w:υ}(h:BR ν i b w):BR ν i (lq r b) w:=by
 cases b with
 |row rw n m g t=>
  rcases h with⟨a,c,d⟩|⟨b,l,f,j,a,c,d,k⟩
  ·exact .inl ⟨by simp[a],c,d⟩
  ·exact .inr ⟨b,l,f,j,a,c,λe=>by simp only[aM]at e;exact d e.1,k⟩
 |cells=>exact h
 |gone=>exact h
structure HR where
 val:AV
 out:E AB
 new:E AB:=[]
 ap:E κ:=[]
def lQ:E O->E AB->E AB->E (O×AB)
 |i::a,h::b,o::c=>bif h.wr then(i,o)::lQ a b c else lQ a b c
 |_,_,_=>[]
def Ct:∀{is:E O}{hs os:E AB}{i:O}{o:AB},(i,o)∈lQ is hs os->∃(j:O)(h:AB),is[j]?=γ i/\hs[j]?=γ h/\os[j]?=γ o/\h.wr=ε
 |f::is,c::hs,g::os,i,o,a=>by
  simp only[lQ]at a;have b:(i,o)∈lQ is hs os->∃(j:O)(h:AB),(f::is)[j]?=γ i/\(c::hs)[j]?=γ h/\(g::os)[j]?=γ o/\h.wr=ε:=λa=>by obtain⟨j,h,k,l,m,n⟩:=Ct a;exact⟨j+1,h,by simpa using k,by simpa using l,by simpa using m,n⟩
  cases d:c.wr with
  |true=>
   rw[d,aZ]at a;rcases dw.1 a with e|a
   ·cases e
    exact⟨0,c,rfl,rfl,rfl,d⟩
   ·exact b a
  |false=>rw[d,a_]at a;exact b a
 |[],_,_,_,_,a=>by simp[lQ]at a
 |_::_,[],_,_,_,a=>by simp[lQ]at a
 |_::_,_::_,[],_,_,a=>by simp[lQ]at a
def MZ:∀{is:E O}{hs os:E AB}{j i:O}{h o:AB},is[j]?=γ i->hs[j]?=γ h->os[j]?=γ o->h.wr=ε->(i,o)∈lQ is hs os
 |f::is,e::hs,g::os,j,i,h,o,a,b,c,d=>by
  cases j with
  |zero=>simp at a b c;subst a b c;simp[lQ,d]
  |succ j=>
   have:=MZ (is:=is) (hs:=hs) (os:=os) (j:=j) (by simpa using a) (by simpa using b) (by simpa using c) d;simp only[lQ];cases e.wr with
   |true=>exact lB _ this
   |false=>exact this
 |[],_,_,_,_,_,_,a,_,_,_=>by simp at a
 |_::_,[],_,_,_,_,_,_,b,_,_=>by simp at b
 |_::_,_::_,[],_,_,_,_,_,_,c,_=>by simp at c
def Mc{i:O}{b:AB}:∀{l:E (O×AB)},(i,b)∈l->∃c,eO i l=γ c
 |p::l,h=>by
  simp only[eO];split
  ·exact⟨_,rfl⟩
  ·rename_i a
   rcases dw.1 h with e|h
   ·subst e;exact aO rfl a
   ·exact Mc h
def wW(a:E O)(b:E AB)(base:O):O->χ O:=λi=>bif Δ i a.length then(bif (b.getD i .gone).wr then a[i]?else ζ)else γ (base+(i-a.length))
def Dh(b:E κ)(avs:E AV)(H:E AB):χ (E O×E AV×E AB):=
 match kH (reach H 400 [] (m8 avs)) avs,vu (reach H 400 [] (m8 avs)) H (reach H 400 [] (m8 avs))with
 |some a,γ h=>cond (iZ (reach H 400 [] (m8 avs))) (γ (reach H 400 [] (m8 avs),a,cu b h)) ζ
 |_,_=>ζ
def da(d:E κ)(a:E AV->E AB->χ HR):Spec:=λe H b=>
 match Dh d e H with
 |some q=>match a q.2.1 q.2.2 with
  |some c=>match mapA (wW q.1 q.2.2 b) c.val,s_ (wW q.1 q.2.2 b) c.out,s_ (wW q.1 q.2.2 b) c.new with
   |some v,γ f,γ g=>cond (ai c.out.length q.2.2.length&&c.new.all AB.wr)
    (γ {val:=v,rd:=q.1,put:=lQ q.1 q.2.2 f,new:=g,ap:=c.ap}) ζ
   |_,_,_=>ζ
  |none=>ζ
 |none=>ζ
def Jo(a:HR):Ex->E AV->E AB->Prop:=λ_ l b=>l=[a.val]/\ab b (a.out++a.new)
def zY(c:HR):Ex->E AV->E AB->Prop:=λ_ l e=>∃a,l=[a]/\(∀M d w v,RH M d (λb=>e.getD b .gone) w->VR d a v->VR d c.val v)/\ab e (c.out++c.new)
structure sq (H H0:E AB):Prop where
 len:H.length=H0.length
 rh:∀{M ν w},RH M ν (λb=>H.getD b .gone) w->RH M ν (λb=>H0.getD b .gone) w
def ab.imp{H a:E AB}(h:ab H a):sq H a:=⟨h.length,λk=>k.ii h⟩
def aa6(c:HR):Ex->E AV->E AB->Prop:=λ_ l e=>∃a,l=[a]/\(∀M d w v,RH M d (λb=>e.getD b .gone) w->VR d a v->VR d c.val v)/\sq e (c.out++c.new)
def alL{M:O->Prop}{ν:Nu}{H:E AB}{w:υ}{i len n c:O}{rw:κ}{g:O->E τ}{t:ae}{v:τ}(h:H.getD i .gone=.row rw n c g t)(k:len<=n)(j:RH M ν (λb=>H.getD b .gone) w)(d:VR ν (.own i len) v):VR ν (.sl i c 0 0 len ζ) v:=by
 simp only[VR]at d⊢;obtain⟨b,a,rfl⟩:=d;have:=j.br i;simp only[h]at this;rcases this with⟨_,_,e⟩|⟨m,l,o,p,f,_,_,q,_⟩
 ·rw[a]at e;cases e
 ·rw[a]at f;cases f
  exact⟨_,_,rfl,by simp,by omega,λ_=>⟨b,a,by simp⟩⟩
def NP{Γ:aE}(hΓ:aK θ Γ){f:bq}{fn:cA}{r:E κ}{d:E AV->E AB->χ HR}(hf:θ.funcs[f]?=γ fn)(s:fn.body.isSome=ε)(h:∀avs H x,d avs H=γ x->aJ x.ap=ε->∃(H0:E AB)(Λ:O->χ Sum)(n:O),sq H H0/\(∀c,fn.body=γ c->eK θ H0.length Λ c)/\aC (ad θ Γ Λ n fn avs H0 (af H0.length)) (aa6 x)):au θ f (da r d):=by
 refine⟨λargs w=>enters f fn hf s args w,λavs H p δ ν vals w hS ho hv hbr hlt hfree hsep htab=>?_⟩;unfold da at hS;split at hS
 case h_2=>cases hS
 rename_i q hq;split at hS
 case h_2=>cases hS
 rename_i x hF;split at hS
 case h_2=>cases hS
 rename_i v ou nw hval hou hnw;cases hck:(ai x.out.length q.2.2.length&&x.new.all AB.wr)with
 |false=>rw[hck]at hS;cases hS
 |true=>
 rw[hck]at hS;simp only[aZ,ar]at hS;subst hS;rw[aM]at hck;have hlen:=ci hck.1;have P:=bX.1 hck.2;unfold Dh at hq;generalize reach H 400 [] (m8 avs)=m at*;split at hq
 case h_2=>cases hq
 rename_i avs' A hra hrb;cases hnd:iZ m with
 |false=>rw[hnd]at hq;cases hq
 |true=>
 rw[hnd]at hq;simp only[aZ,ar]at hq;subst hq;simp only at hval hou hnw hF hlen hbr hsep ho hfree⊢;obtain⟨hl1,hg1⟩:=GS hrb;have hlHc:(cu r A).length=m.length:=by rw[GW,hl1]
 have nuAt:∀{j i},m[j]?=γ i->fg m ν j=ν i:=λu=>by simp[fg,u]
 have B:∀{j b},fg m ν j=γ b->∃i,m[j]?=γ i/\ν i=γ b:=by
  intro j b s;unfold fg at s;split at s
  ·rename_i i R;exact⟨i,R,s⟩
  ·cases s
 have C:∀{b b':AB},gK m b=γ b'->b'.wr=b.wr/\b'.live=b.live:=by
  intro b b' s;cases b with
  |cells cs t=>simp only[gK,dt]at s;obtain⟨q,_,rfl⟩:=s;exact⟨rfl,rfl⟩
  |row=>simp only[gK,ar]at s;subst s;exact⟨rfl,rfl⟩
  |gone=>simp only[gK,ar]at s;subst s;exact⟨rfl,rfl⟩
 --the callee's block j is the caller's block m j
 have view:∀{j i},m[j]?=γ i->∃b1,A[j]?=γ b1/\gK m (H.getD i .gone)=γ b1/\(cu r A)[j]?=γ (lq (r.getD j η) b1):=by intro j i u;obtain⟨b1,z,D⟩:=hg1 j i u;exact⟨b1,z,D,by rw[GV,z];rfl⟩
 have wrOf:∀{j i},m[j]?=γ i->((cu r A).getD j .gone).wr=ε->(H.getD i .gone).wr=ε:=by
  intro j i u y;obtain⟨b1,_,D,e3⟩:=view u;have:(cu r A).getD j .gone=lq (r.getD j η) b1:=by simp[cq,e3]
  rw[this]at y;rw[<-(C D).1];exact WU y
 have liveOf:∀{j i},m[j]?=γ i->((cu r A).getD j .gone).live=ε->(H.getD i .gone).live=ε:=by
  intro j i u y;obtain⟨b1,_,D,e3⟩:=view u;have:(cu r A).getD j .gone=lq (r.getD j η) b1:=by simp[cq,e3]
  rw[this,WT]at y;rw[<-(C D).2];exact y
 obtain⟨hlo,hgo⟩:=B0 hou;obtain⟨hln,hgn⟩:=B0 hnw;have G:∀{j i},m[j]?=γ i->((cu r A).getD j .gone).wr=ε->∃o o',x.out[j]?=γ o/\ou[j]?=γ o'/\oe (wW m (cu r A) p) o=γ o'/\(i,o')∈lQ m (cu r A) ou:=by
  intro j i u y;have hjl:j<m.length:=(eV.1 u).1;have ho:x.out[j]?=γ (x.out[j]'(by omega)):=cV _;obtain⟨o',z,D⟩:=hgo j _ ho;have hh:(cu r A)[j]?=γ ((cu r A)[j]'(by omega)):=cV _;refine⟨_,o',ho,z,D,MZ u hh z ?_⟩;have:(cu r A).getD j .gone=(cu r A)[j]'(by omega):=by simp[cq,hh]
  rw[<-this];exact y
 let M:O->Prop:=λk=>w.heap.size<=k\/∃j b,((cu r A).getD j .gone).wr=ε/\fg m ν j=γ b/\b.n=k
 have hRH:RH M (fg m ν) (λb=>(cu r A).getD b .gone) w:=by
  refine⟨λj=>?_,λi j b b' hne y hlv s hb'=>?_,λi b y s=>.inr ⟨i,b,y,s,rfl⟩,λi b s=>?_,htab.mono ?_⟩
  ·cases u:m[j]?with
   |none=>
    have:(cu r A).getD j .gone=.gone:=by
     rw[cq,l0]
     ·rfl
     ·rw[hlHc]
      exact List.getElem?_eq_none_iff.1 u
    simp only[this];trivial
   |some i=>
    obtain⟨b1,z,D,e3⟩:=view u;have:(cu r A).getD j .gone=lq (r.getD j η) b1:=by simp[cq,e3]
    simp only[this];refine WS ?_;have hbi:=hbr i (g8 u);have hν:=nuAt u;cases R:H.getD i .gone with
    |cells cs t=>rw[R]at D hbi;simp only[gK,dt]at D;obtain⟨cs',W,h2⟩:=D;rw[<-h2];obtain⟨b,l,g1,g2,g3,g4⟩:=hbi;exact⟨b,l,by rw[hν];exact g1,g2,g3,g4.ol W⟩
    |row rw' n wd g t=>
     rw[R]at D hbi;simp only[gK,ar]at D;rw[<-D];rcases hbi with⟨g1,g2,g3⟩|⟨b,l,t',fz,g1,g2⟩
     ·exact .inl ⟨g1,g2,by rw[hν];exact g3⟩
     ·exact .inr ⟨b,l,t',fz,by rw[hν];exact g1,g2⟩
    |gone=>rw[R]at D;simp only[gK,ar]at D;rw[<-D];trivial
  ·obtain⟨X,R,z⟩:=B s
   obtain⟨j',u,D⟩:=B hb';obtain⟨_,o',_,_,_,hp⟩:=G R y;refine hsep X o' j' b b' hp (g8 u) (λe=>?_) (liveOf u hlv) z D;subst e;exact hne (yh hnd i j X R u)
  ·obtain⟨X,_,z⟩:=B s
   exact hlt X b z
  ·rintro k _ (hk|⟨j,b,y,s,rfl⟩)
   ·exact .inl hk
   ·obtain⟨X,R,z⟩:=B s
    obtain⟨_,o',_,_,_,hp⟩:=G R y;exact .inr ⟨X,b,_,hp,z,rfl⟩
 obtain⟨H0,Λ,n,hsim,hL,hG⟩:=h avs' (cu r A) x hF ho;have hl0:H0.length=m.length:=by rw[<-hsim.len,hlHc]
 have hdom0:∀i b,fg m ν i=γ b->i<H0.length:=by intro i b s;obtain⟨X,R,_⟩:=B s;rw[hl0];exact(eV.1 R).1
 refine(nS hΓ mixed enters hf hL (λk hk=>Or.inl hk) hG.out (hv.ol hra) (hsim.rh hRH) hdom0).mono ?_;rintro e w' ⟨vv,av,He,S,rfl,⟨av2,hav,hwk,hHe⟩,hvr,hRH',hfr,hle,hdom'⟩;simp only[lA,aa]at hav;subst hav;have hvr:=hwk _ _ _ _ hRH' hvr;have N:=hHe.rh hRH';have hHl:He.length=m.length+x.new.length:=by rw[hHe.len,cv,hlen,hlHc]
 --a block that may be written has a place
 have wrNu:∀{j:O},((cu r A).getD j .gone).wr=ε->∃b,fg m ν j=γ b:=by
  intro j y;have:BR (fg m ν) j ((cu r A).getD j .gone) w:=hRH.br j;cases s:(cu r A).getD j .gone with
  |cells cs t=>rw[s]at this;obtain⟨b,l,z,_⟩:=this;exact⟨b,z⟩
  |row rw' n wd g t=>
   rw[s]at this y;rcases this with⟨z,_⟩|⟨b,l,t',fz,z,_⟩
   ·simp only[AB.wr]at y
    rw[z]at y;cases y
   ·exact⟨b,z⟩
  |gone=>rw[s]at y;cases y
 let T:Nu:=λi=>match ν i with
  |some b=>γ b
  |none=>if p<=i/\i<p+nw.length then S (m.length+(i-p))else ζ
 have U:∀{i b},ν i=γ b->T i=γ b:=λ{i b} h=>by simp only[T,h]
 have I:∀{j:O},j<nw.length->T (p+j)=S (m.length+j):=λ{j} u=>by
  have h0:=hfree j u;have W:T (p+j)=if p<=p+j/\p+j<p+nw.length then S (m.length+(p+j-p))else ζ:=by
   show(match ν (p+j)with|some b=>γ b|none=>if p<=p+j/\p+j<p+nw.length then S (m.length+(p+j-p))else ζ)=_
   rw[h0]
  rw[W,aP ⟨by omega,by omega⟩,Nat.add_sub_cancel_left]
 have mp:∀i X b,wW m (cu r A) p i=γ X->S i=γ b->T X=γ b:=by
  intro i X b W h2;unfold wW at W;cases hc:Δ i m.length with
  |true=>
   rw[hc,aZ]at W;cases y:((cu r A).getD i .gone).wr with
   |false=>rw[y]at W;cases W
   |true=>rw[y,aZ]at W;obtain⟨b0,L⟩:=wrNu y;have:=hle _ _ L;rw[h2]at this;cases this;rw[nuAt W]at L;exact U L
  |false=>
   rw[hc,a_,ar]at W;subst W;have hge:¬i<m.length:=λhl=>by rw[<-bS]at hl;rw[hl]at hc;cases hc
   have hd:=hdom' i b h2;have e:i=m.length+(i-m.length):=by omega
   rw[I (by rw[hln];omega),<-e];exact h2
 have outBR:∀{j:O}{o:AB},x.out[j]?=γ o->BR S j o w':=by intro j o u;have:=N.br j;have hjl:j<x.out.length:=(eV.1 u).1;simp only[cq,km hjl,u,g9]at this;exact this
 have Q:∀{j:O}{o:AB},x.new[j]?=γ o->(x.out++x.new).getD (m.length+j) .gone=o:=by
  intro j o u;rw[cq,pz (by omega)];have:m.length+j-x.out.length=j:=by omega
  rw[this,u];rfl
 refine⟨vv,T,rfl,⟨λi b s=>U s,λi W h2=>?_,hvr.map mp hval,λi b hl=>?_,λj b u=>?_,hfr.os,hfr.tape,hfr.output,hfr.size,λk hk hne=>?_,λj b u s=>?_,λj j' b b' hne u hj' s hb'=>?_⟩⟩
 ·simp only[T,W]at h2
  split at h2
  ·assumption
  ·exact(h2 rfl).elim
 ·obtain⟨j,hh,z,D,e3,e4⟩:=Ct (od hl)
  have y:((cu r A).getD j .gone).wr=ε:=by simp only[cq,D,g9];exact e4
  obtain⟨o,o',g1,g2,g3,_⟩:=G z y;rw[e3]at g2;cases g2;obtain⟨b0,L⟩:=wrNu y;have e5:T i=S j:=by rw[hle _ _ L];rw[nuAt z]at L;exact U L
  exact(outBR g1).map mp e5 g3
 ·have hjl:j<nw.length:=(eV.1 u).1
  have hn:x.new[j]?=γ (x.new[j]'(by omega)):=cV _;obtain⟨b',z,D⟩:=hgn j _ hn;rw[u]at z;cases z;have:BR S (m.length+j) ((x.out++x.new).getD (m.length+j) .gone) w':=N.br (m.length+j);rw[Q hn]at this;exact this.map mp (I hjl) D
 ·refine hfr.block k hk λhM=>?_
  rcases hM with hM|⟨j,b,y,s,e⟩
  ·omega
  ·obtain⟨i,R,z⟩:=B s
   obtain⟨_,o',_,_,_,hp⟩:=G R y;exact hne _ b hp z e
 ·have u:j<nw.length:=u
  rw[I u]at s;refine⟨N.lt _ _ s,?_⟩;have hn:x.new[j]?=γ (x.new[j]'(by omega)):=cV _;have hwn:((x.out++x.new).getD (m.length+j) .gone).wr=ε:=by rw[Q hn];exact P _ (g8 hn)
  rcases N.own _ b hwn s with hM|⟨i,b0,y,L,e⟩
  ·exact .inl hM
  ·right
   obtain⟨X,R,z⟩:=B L;obtain⟨o,o',g1,g2,g3,hp⟩:=G R y;obtain⟨o2,hl2⟩:=Mc hp;refine⟨X,b0,?_,z,e⟩;have hil:i<m.length:=(eV.1 R).1;have hgone:o=.gone:=by
    cases hlv:o.live with
    |false=>cases o<;>first|rfl|cases hlv
    |true=>
     have e3:(x.out++x.new).getD i .gone=o:=by rw[cq,km (by omega),g1];rfl
     exact(N.sep (m.length+j) i b b0 (by omega) hwn (by rw[e3];exact hlv) s (hle _ _ L) e.symm).elim
   subst hgone;have ho':=(Vb g3).2.2 rfl;subst ho';obtain⟨j2,h2,f1,f2,f3,f4⟩:=Ct (od hl2);have:j2=i:=yh hnd j2 i X f1 R;subst this;rw[g2]at f3;cases f3;exact hl2
 ·have u:j<nw.length:=u
  have hj':j'<nw.length:=hj';rw[I u]at s;rw[I hj']at hb';have hn:x.new[j]?=γ (x.new[j]'(by omega)):=cV _;have hn':x.new[j']?=γ (x.new[j']'(by omega)):=cV _;have w1:((x.out++x.new).getD (m.length+j) .gone).wr=ε:=by rw[Q hn];exact P _ (g8 hn)
  have w2:((x.out++x.new).getD (m.length+j') .gone).live=ε:=by
   rw[Q hn'];have:=P _ (g8 hn')
   revert this
   cases x.new[j']'(by omega)<;>simp[AB.wr,AB.live]
  exact N.sep (m.length+j) (m.length+j') b b' (by omega) w1 w2 s hb'
def XI{Γ:aE}(i:aK θ Γ){f:bq}{fn:cA}{j:E κ}{b:E AV->E AB->χ HR}(k:θ.funcs[f]?=γ fn)(m:fn.body.isSome=ε)(h:∀avs H g,b avs H=γ g->aJ g.ap=ε->∃(d:E AB)(Λ:O->χ Sum)(n:O),ab H d/\(∀c,fn.body=γ c->eK θ d.length Λ c)/\aC (ad θ Γ Λ n fn avs d (af d.length)) (zY g)):au θ f (da j b):=
 NP i k m λavs H g o p=>by obtain⟨d,Λ,n,q,r,s⟩:=h avs H g o p;exact⟨d,Λ,n,q.imp,r,⟨CB (λe l w ⟨a,t,u,v⟩=>⟨a,t,u,v.imp⟩) s.out⟩⟩
def lV{Γ:aE}(g:aK θ Γ){f:bq}{fn:cA}{i:E κ}{a:E AV->E AB->χ HR}(j:θ.funcs[f]?=γ fn)(k:fn.body.isSome=ε)(h:∀avs H d,a avs H=γ d->aJ d.ap=ε->∃(b:E AB)(Λ:O->χ Sum)(n:O),ab H b/\(∀c,fn.body=γ c->eK θ b.length Λ c)/\aC (ad θ Γ Λ n fn avs b (af b.length)) (Jo d)):au θ f (da i a):=
 XI g j k λavs H d m o=>by obtain⟨b,Λ,n,p,q,r⟩:=h avs H d m o;exact⟨b,Λ,n,p,q,⟨CB (λe l v ⟨s,t⟩=>⟨_,s,λ_ _ _ _ _ u=>u,t⟩) r.out⟩⟩
def aqp(a:aQ):ad θ F7 K 100 f145 ([dn a].map .v) [] ed=rO [AV.v (.bool (pn (w8 a) (-1000000:Z) (1000000:Z)))] []:=by kernel_rfl
def Cg:au θ 145 (aS AK):=by
 refine en (n:=100) Lj func145 rfl λj v k a l=>?_
 unfold AK at a;split at a
 ·rename_i b c d e f g h i
  cases a;show Good (ad θ F7 K 100 f145 ([dn (v8 b c d e f g h i)].map .v) [] ed) _
  rw[aqp];exact sT rfl
 ·cases a
noncomputable abbrev n4:cA:=f190
abbrev mo:Ex->E O:=cx [0,1,7,8] [] [4]
abbrev uK:AV:=.fn 191 [.ptr 1 0 0 0]
abbrev n6(m:O)(f:ω)(t a:ae)(x:aQ):E AB:=[.row η m 9 (J f) t,.cells [.v (ι (x 0)),.v (ι (x 1)),.v (ι (x 2)),.v (ι (x 3)),.v (ι (x 4)),.v (ι (x 5)),.v (ι (x 6)),.v (ι (x 7)),.v (ι (x 8))] a]
def amZ(m:O)(f:ω)(t c:ae)(x:aQ)(i:O):let b:=[AB.row η m 9 (J f) t,AB.cells [vI (x 0),vI (x 1),vI (x 2),vI (x 3),vI (x 4),vI (x 5),vI (x 6),vI (x 7),vI (x 8)] c];let a:=(↑i:Z);a0 θ g0 100 K (a4 0 n4) (aw 0 19 ((mo .normal).zip [.own 0 m,uK,.v (ι m),.v (ι i)])) (n6 m f t c x) (cJ 19 mo 2)
 =bif ο (a<(m:Z))then Ω [ο (a<(m:Z)),ο (a5 a<m)] (bif f (a5 a) 0==x 0 then rO [vI a] b else ao.out .normal [AV.own 0 m,AV.fn (191:bq) [AV.ptr 1 0 0 0],vI (m:Z),vI (aj .i64 (a+(1:Z)))] b)else ao.out (Ex.exit 0) [] b:=by intros;kernel_rfl
noncomputable abbrev LS(m:O)(f:ω)(t b:ae)(x:aQ)(bad:O->κ):O->χ Sum:=bJ 0 (bD 19 (mo .normal) 2 [.own 0 m,uK,.v (ι m),.v (ι (0:O))] (n6 m f t b x) (λa=>cond (bU bad m) (a .normal (aw 0 19 []) (n6 m f t b x)) (a .ret (aw 0 19 [(4,.v (ι (fw bad m)))]) (n6 m f t b x))))
def aq7(m:O)(f:ω)(t a:ae)(x:aQ)(bad:O->κ):let b:=[AB.row η m 9 (J f) t,AB.cells [vI (x 0),vI (x 1),vI (x 2),vI (x 3),vI (x 4),vI (x 5),vI (x 6),vI (x 7),vI (x 8)] a];ad θ g0 (LS m f t a x bad) 100 n4 [.own 0 m,uK] (n6 m f t a x) (af 2)
 =Ω [cw ([AV.own 0 m,AV.fn (191:bq) [AV.ptr 1 0 0 0],vI (m:Z),vI 0]=[AV.own 0 m,uK,vI (m:Z),vI 0]/\ab b (n6 m f t a x))] (bif bU bad m then rO [vI (-1:Z)] b else rO [vI (fw bad m)] b):=by intros;kernel_rfl
abbrev q9:AV:=.v (.func (.func 189) ⟨[]⟩ ⟨[]⟩)
abbrev q_:AV:=.v (.func (.func 194) ⟨[]⟩ ⟨[]⟩)
def xE(a:(O->Z)->κ):aE:=ext fm 145 (aS (m2 a))
abbrev iU(m:O)(f:ω)(t:ae):E AB:=[.row η m 9 (J f) t]
def am0(d:(O->Z)->κ)(m:O)(f:ω)(t:ae)(i:O):let c:=[AB.row η m 9 (J f) t];let b:=(↑i:Z);let a:=(0+a5 b);a0 θ (xE d) 100 K (a4 0 n4) (aw 0 19 ((mo .normal).zip [.sl 0 9 0 0 m ζ,q9,.v (ι m),.v (ι i)])) (iU m f t) (cJ 19 mo 1)
 =bif ο (b<(m:Z))then Ω [ο (b<(m:Z)),ο (0+a5 b<m)] (bif !aD (f a 0) (-1000:Z) (1000:Z)then rO [vI b] c else bif !d (v8 (f a 1) (f a 2) (f a 3) (f a 4) (f a 5) (f a 6) (f a 7) (f a 8))then rO [vI b] c else ao.out .normal [AV.sl 0 9 0 0 m ζ,AV.v (Qg (Fn.func (189:bq)) (bj []) (bj [])),vI (m:Z),vI (aj .i64 (b+(1:Z)))] c)else ao.out (Ex.exit 0) [] c:=by intros;kernel_rfl
def am1(m:O)(f:ω)(t:ae)(i:O):let d:=[AB.row η m 9 (J f) t];let c:=(↑i:Z);let a:=(0:Z);let b:=(0+a5 c);a0 θ g0 100 K (a4 0 n4) (aw 0 19 ((mo .normal).zip [.sl 0 9 0 0 m ζ,q_,.v (ι m),.v (ι i)])) (iU m f t) (cJ 19 mo 1)
 =bif ο (c<(m:Z))then Ω [ο (c<(m:Z)),ο (0+a5 c<m)] (bif f b 1==a&&(f b 2==a&&(f b 3==a&&(f b 4==a&&(f b 5==a&&(f b 6==a&&(f b 7==a&&(f b 8==a&&ε)))))))&&ε then rO [vI c] d else ao.out .normal [AV.sl 0 9 0 0 m ζ,AV.v (Qg (Fn.func (194:bq)) (bj []) (bj [])),vI (m:Z),vI (aj .i64 (c+(1:Z)))] d)else ao.out (Ex.exit 0) [] d:=by intros;kernel_rfl
noncomputable abbrev xW(fn:AV)(m:O)(f:ω)(t:ae)(bad:O->κ):O->χ Sum:=bJ 0 (bD 19 (mo .normal) 1 [.sl 0 9 0 0 m ζ,fn,.v (ι m),.v (ι (0:O))] (iU m f t) (λa=>cond (bU bad m) (a .normal (aw 0 19 []) (iU m f t)) (a .ret (aw 0 19 [(4,.v (ι (fw bad m)))]) (iU m f t))))
def aq8(c:(O->Z)->κ)(m:O)(f:ω)(t:ae)(bad:O->κ):let a:=[AB.row η m 9 (J f) t];let b:=AV.sl 0 9 0 0 m ζ;ad θ (xE c) (xW q9 m f t bad) 100 n4 [.sl 0 9 0 0 m ζ,q9] (iU m f t) (af 1)
 =Ω [cw ([b,AV.v (Qg (Fn.func (189:bq)) (bj []) (bj [])),vI (m:Z),vI 0]=[b,q9,vI (m:Z),vI 0]/\ab a (iU m f t))] (bif bU bad m then rO [vI (-1:Z)] a else rO [vI (fw bad m)] a):=by intros;kernel_rfl
def aq9(m:O)(f:ω)(t:ae)(bad:O->κ):let a:=[AB.row η m 9 (J f) t];let b:=AV.sl 0 9 0 0 m ζ;ad θ g0 (xW q_ m f t bad) 100 n4 [.sl 0 9 0 0 m ζ,q_] (iU m f t) (af 1)
 =Ω [cw ([b,AV.v (Qg (Fn.func (194:bq)) (bj []) (bj [])),vI (m:Z),vI 0]=[b,q_,vI (m:Z),vI 0]/\ab a (iU m f t))] (bif bU bad m then rO [vI (-1:Z)] a else rO [vI (fw bad m)] a):=by intros;kernel_rfl
def ul(o:E Wh->O->κ)(id:O):E SA->χ FR
 |[.row m g,.v (.func (.func f) ⟨[]⟩ ⟨[]⟩)]=>γ {val:=.v (ι (fw (o (V (ξ g) m)) m)),ap:=[ai f id,ak m g,ο (m<=2^38)]}
 |_=>ζ
def B4:E Md:=[.rd 9 112,.val]
def aqF(o:E Wh->O->κ)(m:O)(f:ω)(t:ae):let a:=[AB.row η m 9 (J f) t];ad θ (ext g0 190 (am B4 (ul o 189))) K 100 f123 [.sl 0 9 0 0 m ζ] [.row η m 9 (J f) t] (af 1)
 =bif ο ((m:Z)<=(12:Z))then Ω [Θ (0+m) m,ak m λq=>J f (0+q),ο (m<=274877906944)] (rO [AV.v (.bool !ο (fw (o (V (ξ λq=>J f (0+q)) m)) m>= (0:Z)))] a)else rO [vB η] a:=by intros;kernel_rfl
def kS(f:ω)(x:Z)(i:O):κ:=f i 0==x
def aoV(m:O)(f:ω)(t d:ae)(x:aQ)(j:m<=2^40):cp θ 2 (.block 0 (.loop (a4 0 n4))) (bD 19 (mo .normal) 2 [.own 0 m,uK,.v (ι m),.v (ι (0:O))] (n6 m f t d x) (λa=>cond (bU (kS f (x 0)) m) (a .normal (aw 0 19 []) (n6 m f t d x)) (a .ret (aw 0 19 [(4,.v (ι (fw (kS f (x 0)) m)))]) (n6 m f t d x)))):=by
 refine dQ bt (n:=100) (m:=2) (lv:=mo) (λi=>[.own 0 m,uK,.v (ι m),.v (ι (i:O))]) (λ_=>n6 m f t d x) (λi=>bU (kS f (x 0)) i=ε) m (λ_=>K) (du rfl rfl rfl) (aR _) rfl λa Q e i g h=>⟨cT _ _ _,?_⟩
 rw[amZ];refine ay (λc=>?_) λc=>?_
 ·have c:=aL c
  have b:i<m:=by omega
  rw[cY,bR (x:=(i:Z)+1) (by omega)];refine ag (by simp only[F,ah,aa,aB];omega) ?_;refine ay (λq=>?_) λq=>?_
  ·refine Φ ⟨_,ab.refl _,?_⟩
   rw[og b q,xx g b q]at e;exact e
  ·exact Φ ⟨i+1,⟨rfl,b,qj g q⟩,rfl,ab.refl _⟩
 ·have c:=cE c
  have:i=m:=by omega
  subst this;refine Φ ⟨_,ab.refl _,?_⟩;rw[aP rfl];rw[g]at e;exact e
def kw(a:(O->Z)->κ)(f:ω)(i:O):κ:=bif !aD (f i 0) (-1000) 1000 then ε else !a (v8 (f i 1) (f i 2) (f i 3) (f i 4) (f i 5) (f i 6) (f i 7) (f i 8))
def aoW{c:(O->Z)->κ}(j:aK θ (xE c))(m:O)(f:ω)(t:ae)(o:m<=2^40):cp θ 1 (.block 0 (.loop (a4 0 n4))) (bD 19 (mo .normal) 1 [.sl 0 9 0 0 m ζ,q9,.v (ι m),.v (ι (0:O))] (iU m f t) (λa=>cond (bU (kw c f) m) (a .normal (aw 0 19 []) (iU m f t)) (a .ret (aw 0 19 [(4,.v (ι (fw (kw c f) m)))]) (iU m f t)))):=by
 refine dQ j (n:=100) (m:=1) (lv:=mo) (λi=>[.sl 0 9 0 0 m ζ,q9,.v (ι m),.v (ι (i:O))]) (λ_=>iU m f t) (λi=>bU (kw c f) i=ε) m (λ_=>K) (du rfl rfl rfl) (aR _) rfl λa Q e i h l=>⟨cT _ _ _,?_⟩
 rw[am0];refine ay (λg=>?_) λg=>?_
 ·have g:=aL g
  have b:i<m:=by omega
  rw[cY,bF,bR (x:=(i:Z)+1) (by omega)];refine ag (by simp only[F,ah,aa,aB];omega) ?_;refine ay (λq=>?_) λq=>?_
  ·have d:kw c f i=ε:=by unfold kw;rw[q];rfl
   refine Φ ⟨_,ab.refl _,?_⟩;rw[og b d,xx h b d]at e;exact e
  ·refine ay (λk=>?_) λk=>?_
   ·have d:kw c f i=ε:=by unfold kw;rw[q];exact k
    refine Φ ⟨_,ab.refl _,?_⟩;rw[og b d,xx h b d]at e;exact e
   ·have d:kw c f i=η:=by unfold kw;rw[q];exact k
    exact Φ ⟨i+1,⟨rfl,b,qj h d⟩,rfl,ab.refl _⟩
 ·have g:=cE g
  have:i=m:=by omega
  subst this;refine Φ ⟨_,ab.refl _,?_⟩;rw[aP rfl];rw[h]at e;exact e
def pQ(f:ω)(i:O):κ:=gJ (f i)
def aoX(m:O)(f:ω)(t:ae)(h:m<=2^40):cp θ 1 (.block 0 (.loop (a4 0 n4))) (bD 19 (mo .normal) 1 [.sl 0 9 0 0 m ζ,q_,.v (ι m),.v (ι (0:O))] (iU m f t) (λa=>cond (bU (pQ f) m) (a .normal (aw 0 19 []) (iU m f t)) (a .ret (aw 0 19 [(4,.v (ι (fw (pQ f) m)))]) (iU m f t)))):=by
 refine dQ bt (n:=100) (m:=1) (lv:=mo) (λi=>[.sl 0 9 0 0 m ζ,q_,.v (ι m),.v (ι (i:O))]) (λ_=>iU m f t) (λi=>bU (pQ f) i=ε) m (λ_=>K) (du rfl rfl rfl) (aR _) rfl λa Q d i e g=>⟨cT _ _ _,?_⟩
 rw[am1];refine ay (λc=>?_) λc=>?_
 ·have c:=aL c
  have b:i<m:=by omega
  rw[cY,bF,bR (x:=(i:Z)+1) (by omega)];refine ag (by simp only[F,ah,aa,aB];omega) ?_;refine ay (λq=>?_) λq=>?_
  ·refine Φ ⟨_,ab.refl _,?_⟩
   rw[og b q,xx e b q]at d;exact d
  ·exact Φ ⟨i+1,⟨rfl,b,qj e q⟩,rfl,ab.refl _⟩
 ·have c:=cE c
  have:i=m:=by omega
  subst this;refine Φ ⟨_,ab.refl _,?_⟩;rw[aP rfl];rw[e]at d;exact d
def It:E AV->E AB->χ HR
 |[.own 0 m,.fn 191 [.ptr 1 0 0 0]],[.row η n 9 g t,.cells [.v (.int .i64 a),.v (.int .i64 b),.v (.int .i64 c),.v (.int .i64 d),.v (.int .i64 e),.v (.int .i64 f),.v (.int .i64 h),.v (.int .i64 i),.v (.int .i64 j)] k]=>γ {val:=.v (ι (fw (kS (ξ g) a) m)),out:=[.row η n 9 g t,.cells [.v (.int .i64 a),.v (.int .i64 b),.v (.int .i64 c),.v (.int .i64 d),.v (.int .i64 e),.v (.int .i64 f),.v (.int .i64 h),.v (.int .i64 i),.v (.int .i64 j)] k],ap:=[ai n m,ak m g,ο (m<=2^38)]}
 |_,_=>ζ
def v9(s a b c d e f g h:Z):O->Z:=fU ⟨s,⟨a,b,c,d,e,f,g,h⟩⟩
def aks:au θ 190 (da [ε] It):=by
 refine lV bt aaA rfl λv H x p u=>?_
 unfold It at p;split at p
 ·rename_i m n g t a b c d e f h i k l
  cases p;simp only[F]at u;obtain⟨r,s,w,_⟩:=u;have r:=ci r;subst r;have y:=aL w;refine⟨n6 n (ξ g) t l (v9 a b c d e f h i k),LS n (ξ g) t l (v9 a b c d e f h i k) (kS (ξ g) a),100,.cons (Ξ.row λj o=>aN s j o) (.cons rfl .nil),cz (by kernel_rfl) (aoV n (ξ g) t l (v9 a b c d e f h i k) (by omega)),?_⟩;show aC (ad θ g0 (LS n (ξ g) t l (v9 a b c d e f h i k) (kS (ξ g) a)) 100 n4 [.own 0 n,uK] (n6 n (ξ g) t l (v9 a b c d e f h i k)) (af 2)) _
  rw[aq7];refine ag (by rw[F];exact⟨cg ⟨rfl,ab.refl _⟩,rfl⟩) (ay (λq=>?_) λq=>?_)
  ·exact Φ ⟨by rw[AW q],.cons (Ξ.row λj o=>(aN s j o).symm) (.cons rfl .nil)⟩
  ·exact Φ ⟨rfl,.cons (Ξ.row λj o=>(aN s j o).symm) (.cons rfl .nil)⟩
 ·cases p
def sE(L:E Wh):O->κ:=kw (λv=>bz (bC v)) (Y L)
def oS(L:E Wh):O->κ:=pQ (Y L)
def kM(f:ω){m j:O}(a:j<m):∀k,k<9->Y (V f m) j k=f j k:=λk b=>by simp only[Y,nb f a];exact Oy (f j) k b
def Q6(f:ω){m j:O}(a:j<m):kw (λv=>bz (bC v)) f j=sE (V f m) j:=by simp only[sE,kw,kM f a 0 (by omega),kM f a 1 (by omega),kM f a 2 (by omega),kM f a 3 (by omega),kM f a 4 (by omega),kM f a 5 (by omega),kM f a 6 (by omega),kM f a 7 (by omega),kM f a 8 (by omega)]
def JI(f:ω){m j:O}(a:j<m):pQ f j=oS (V f m) j:=by simp only[oS,pQ,gJ,kM f a 1 (by omega),kM f a 2 (by omega),kM f a 3 (by omega),kM f a 4 (by omega),kM f a 5 (by omega),kM f a 6 (by omega),kM f a 7 (by omega),kM f a 8 (by omega)]
def S9:aK θ (xE (λv=>bz (bC v))):=by unfold xE;rw[pW];exact az jz Cg
def akt:au θ 190 (am B4 (ul sE 189)):=by
 refine bY S9 aaA rfl λf k b e=>?_
 unfold ul at b;split at b
 ·rename_i m g l
  cases b;simp only[F]at e;obtain⟨c,d,h,_⟩:=e;have c:=ci c;subst c;have n:=aL h;have o:bU (sE (V (ξ g) m)) m=bU (kw (λv=>bz (bC v)) (ξ g)) m:=B9 λj a=>(Q6 (ξ g) a).symm
  have i:fw (sE (V (ξ g) m)) m=fw (kw (λv=>bz (bC v)) (ξ g)) m:=KM λj a=>(Q6 (ξ g) a).symm
  refine⟨iU m (ξ g) 112,xW q9 m (ξ g) 112 (kw (λv=>bz (bC v)) (ξ g)),100,.cons (Ξ.row λj a=>aN d j a) .nil,cz (by kernel_rfl) (aoW S9 m (ξ g) 112 (by omega)),?_⟩;show aC (ad θ (xE λv=>bz (bC v)) (xW q9 m (ξ g) 112 (kw (λv=>bz (bC v)) (ξ g))) 100 n4 [.sl 0 9 0 0 m ζ,q9] (iU m (ξ g) 112) (af 1)) _
  rw[aq8,i];refine ag (by rw[F];exact⟨cg ⟨rfl,ab.refl _⟩,rfl⟩) (ay (λq=>?_) λq=>?_)
  ·exact Φ ⟨_,rfl,by rw[AW q],.cons (Ξ.row λj a=>(aN d j a).symm) .nil⟩
  ·exact Φ ⟨_,rfl,rfl,.cons (Ξ.row λj a=>(aN d j a).symm) .nil⟩
 ·cases b
def aku:au θ 190 (am B4 (ul oS 194)):=by
 refine bY bt aaA rfl λf k b e=>?_
 unfold ul at b;split at b
 ·rename_i m g l
  cases b;simp only[F]at e;obtain⟨c,d,h,_⟩:=e;have c:=ci c;subst c;have n:=aL h;have o:bU (oS (V (ξ g) m)) m=bU (pQ (ξ g)) m:=B9 λj a=>(JI (ξ g) a).symm
  have i:fw (oS (V (ξ g) m)) m=fw (pQ (ξ g)) m:=KM λj a=>(JI (ξ g) a).symm
  refine⟨iU m (ξ g) 112,xW q_ m (ξ g) 112 (pQ (ξ g)),100,.cons (Ξ.row λj a=>aN d j a) .nil,cz (by kernel_rfl) (aoX m (ξ g) 112 (by omega)),?_⟩;show aC (ad θ g0 (xW q_ m (ξ g) 112 (pQ (ξ g))) 100 n4 [.sl 0 9 0 0 m ζ,q_] (iU m (ξ g) 112) (af 1)) _
  rw[aq9,i];refine ag (by rw[F];exact⟨cg ⟨rfl,ab.refl _⟩,rfl⟩) (ay (λq=>?_) λq=>?_)
  ·exact Φ ⟨_,rfl,by rw[AW q],.cons (Ξ.row λj a=>(aN d j a).symm) .nil⟩
  ·exact Φ ⟨_,rfl,rfl,.cons (Ξ.row λj a=>(aN d j a).symm) .nil⟩
 ·cases b
def abH(L:E Wh):aG L=(ο (L.length<=12)&&bU (sE L) L.length):=by
 have:=VF (Y L) L.length;rw[s7]at this;rw[this]
 congr 1
 refine B9 λj _=>?_
 simp only[nQ,sE,kw];cases aD (Y L j 0) (-1000) 1000<;>simp
def Ci:au θ 123 (am bP ui):=by
 refine bY (az bt akt) func123 rfl λl t d i=>?_
 unfold ui at d;split at d
 ·rename_i m g
  cases d;simp only[F]at i;obtain⟨k,n,_⟩:=i;have u:=aL n;refine⟨[.row η m 9 (J (ξ g)) 112],K,100,.cons (Ξ.row λj f=>aN k j f) .nil,dq _,?_⟩;show aC (ad θ (ext g0 190 (am B4 (ul sE 189))) K 100 f123 [.sl 0 9 0 0 m ζ] [.row η m 9 (J (ξ g)) 112] (af 1)) _
  rw[aqF];have e:=abH (V (ξ g) m);rw[ch]at e;have a:∀b,aG (V (ξ g) m)=b->aC (.out .ret [.v (.bool b)] [.row η m 9 (J (ξ g)) 112]) (dV (bI bP [.row m g] []) {val:=.v (.bool (aG (V (ξ g) m))),ap:=[ak m g,ο (m<=2^39)]}):=λb r=>Φ ⟨_,rfl,by rw[r],.cons (Ξ.row λj f=>(aN k j f).symm) .nil⟩
  have z:(λq=>J (ξ g) (0+q))=J (ξ g):=by funext q;rw[bF]
  rw[z,cb,afE,Bool.not_not];refine ay (λc=>?_) λc=>?_
  ·have s:=aL c
   have h:m<=12:=by omega
   refine ag (by simp only[F,ah,aa];exact⟨by rw[bF];simp,bw _ _,bA (by omega)⟩) (a _ (e.trans (by rw[bA h];rfl)))
  ·have s:=cE c
   have h:¬m<=12:=by omega
   exact a _ (e.trans (by rw[eJ h];rfl))
 ·cases d
abbrev xt:AV:=.fn 194 []
noncomputable abbrev sO:cA:=f193
abbrev BE:Ex->E O:=cx [0,1,5,6] [0,5] [4]
abbrev e7(m:O)(h:ω)(t:ae):E AB:=[.row ε m 9 (J h) t]
abbrev vJ(m k j:O):E AV:=[.own 0 m,xt,.v (ι k),.v (ι j)]
def amO(m:O)(h:ω)(t:ae)(k j:O):let d:=(↑k:Z);let c:=(0:Z);let e:=(↑j:Z);let f:=[AB.row ε m 9 (J h) t];let g:=AV.fn (194:bq) [];let a:=(a5 e);let b:=(a5 d);let i:=vI (aj .i64 (e+(1:Z)));a0 θ g0 100 K (a4 0 sO) (aw 0 42 ((BE .normal).zip (vJ m k j))) (e7 m h t) (cJ 42 BE 1)
 =bif ο (e<(m:Z))then Ω [ο (e<(m:Z)),ο (a5 e<m)] (bif !(h a 1==c&&(h a 2==c&&(h a 3==c&&(h a 4==c&&(h a 5==c&&(h a 6==c&&(h a 7==c&&(h a 8==c&&ε)))))))&&ε)then Ω [ο (d<(m:Z)),ο (a5 d<m)] (ao.out .normal [AV.own 0 m,g,vI (aj .i64 (d+(1:Z))),i] [AB.row ε m 9 (λq=>[ι (bif ai q b then h a 0 else h q 0),ι (bif ai q b then h a 1 else h q 1),ι (bif ai q b then h a 2 else h q 2),ι (bif ai q b then h a 3 else h q 3),ι (bif ai q b then h a 4 else h q 4),ι (bif ai q b then h a 5 else h q 5),ι (bif ai q b then h a 6 else h q 6),ι (bif ai q b then h a 7 else h q 7),ι (bif ai q b then h a 8 else h q 8)]) t])else ao.out .normal [AV.own 0 m,g,vI d,i] f)else ao.out (Ex.exit 0) [AV.own 0 m,vI d] f:=by intros;kernel_rfl
def xB(o:E Wh->O->κ):aE:=ext g0 190 (am B4 (ul o 194))
noncomputable abbrev Gi(m b c:O)(h:ω)(t:ae)(k:O)(d:ω):O->χ Sum:=bJ 0 (bD 42 (BE .normal) 1 (vJ m b c) (e7 m h t) (λa=>a .normal (aw 0 42 [(0,.own 0 m),(5,.v (ι k))]) (e7 m d t)))
def YE(o:E Wh->O->κ)(m l n:O)(h:ω)(t:ae)(k:O)(a:ω):let b:=(0:Z);let g:=(o (V (ξ (J h)) m));let e:=(↑k:Z);let p:=[AB.row ε m 9 (J h) t];let f:=(m:Z);let i:=Θ m m;let r:=ο (e<=f);let c:=(a5 e+a5 (f-e));let d:=(a5 e);let j:=ο (f<=f);ad θ (xB o) (Gi m l n h t k a) 100 sO [.own 0 m,xt] (e7 m h t) (af 1)
 =Ω [i,ak m (J h),ο (m<=274877906944)] (bif fw g m==(-1:Z)then rO [AV.own 0 m] p else Ω [cw ([AV.own 0 m,AV.fn (194:bq) [],vI (fw g m),vI (aj .i64 (fw g m+(1:Z)))]=vJ m l n/\ab p (e7 m h t)),r,j,j,i,Θ c m,r,j,i] (rO [AV.sl 0 9 0 0 (a5 (e-b)) ζ] [AB.row ε m 9 (λq=>[ι (bif Θ d q&&Δ q c then b else a q 0),ι (bif Θ d q&&Δ q c then b else a q 1),ι (bif Θ d q&&Δ q c then b else a q 2),ι (bif Θ d q&&Δ q c then b else a q 3),ι (bif Θ d q&&Δ q c then b else a q 4),ι (bif Θ d q&&Δ q c then b else a q 5),ι (bif Θ d q&&Δ q c then b else a q 6),ι (bif Θ d q&&Δ q c then b else a q 7),ι (bif Θ d q&&Δ q c then b else a q 8)]) t])):=by intros;kernel_rfl
def Ad{a b:O}(h:a≠b):ai a b=η:=by
 cases c:ai a b with
 |false=>rfl
 |true=>exact(h (ci c)).elim
abbrev ge(f:ω)(j:O):O:=(bO (V f j)).length
abbrev m5(f:ω)(m j:O):O->O->Z:=Y (gE f m j)
def ag4{f g:O->Z}(h:∀k,k<9->f k=g k):gJ f=gJ g:=by simp only[gJ,h 1 (by omega),h 2 (by omega),h 3 (by omega),h 4 (by omega),h 5 (by omega),h 6 (by omega),h 7 (by omega),h 8 (by omega)]
def aoL(m b:O)(f:ω)(t:ae)(u:m<=2^38)(v:b<=m):cp θ 1 (.block 0 (.loop (a4 0 sO))) (bD 42 (BE .normal) 1 (vJ m (ge f b) b) (e7 m (m5 f m b) t) (λa=>a .normal (aw 0 42 [(0,.own 0 m),(5,.v (ι (ge f m)))]) (e7 m (m5 f m m) t))):=by
 refine dQ bt (n:=100) (m:=1) (lv:=BE) (λi=>vJ m (ge f (b+i)) (b+i)) (λi=>e7 m (m5 f m (b+i)) t) (λ_=>True) (m-b) (λ_=>K) (du rfl rfl rfl) (aR _) trivial λa Q g i x l=>⟨cT _ _ _,?_⟩
 have y:ge f (b+i)<=b+i:=vh f (b+i);rw[amO];refine ay (λd=>?_) λd=>?_
 ·have d:=aL d
  have c:b+i<m:=by omega
  have o:aj a7 (((b+i:O):Z)+1)=((b+(i+1):O):Z):=by rw[bR (by omega)];omega
  have p:aj a7 (((ge f (b+i):O):Z)+1)=((ge f (b+i)+1:O):Z):=by rw[bR (by omega)];omega
  have r:gJ (m5 f m (b+i) (b+i))=gJ (f (b+i)):=ag4 (RV f (aR _) c);simp only[cY];rw[o,p];refine ag (by simp only[F,ah,aa,aB];omega) ?_;show aC (cond (!(gJ (m5 f m (b+i) (b+i)))) _ _) _
  rw[r];cases q:gJ (f (b+i))with
  |true=>
   have h:=adW (m:=m) q;have j:=B8 q;refine Φ ⟨i+1,⟨rfl,by omega,trivial⟩,?_,?_⟩
   ·show _=vJ m (bO (V f (b+i+1))).length (b+(i+1))
    rw[j]
   ·show ab _ (e7 m (Y (gE f m (b+i+1))) t)
    rw[h];exact ab.refl _
  |false=>
   have h:=adU c q;have j:=B7 q;refine ag (by simp only[F,ah,aa,aB];omega) (Φ ⟨i+1,⟨rfl,by omega,trivial⟩,?_,?_⟩)
   ·show _=vJ m (bO (V f (b+i+1))).length (b+(i+1))
    rw[j,cv];rfl
   ·show ab _ (e7 m (Y (gE f m (b+i+1))) t)
    rw[h];refine .cons (Ξ.row λq z=>?_) .nil;show J (λq k=>bif ai q (ge f (b+i))then m5 f m (b+i) (b+i) k else m5 f m (b+i) q k) q=_
    refine GY λk g=>?_
    rw[Ox _ _ _ _ (by rw[adT f (by omega)];show ge f (b+i)<m;omega)];by_cases e:q=ge f (b+i)
    ·rw[e,aP rfl,show ai (ge f (b+i)) (ge f (b+i))=ε from l5 _,aZ,Oy (f (b+i)) k g]
     exact RV f (aR _) c k g
    ·rw[bi e,Ad e,a_]
 ·have d:=cE d
  have:b+i=m:=by omega
  rw[this];have s:i=m-b:=by omega
  refine Φ ⟨_,ab.refl _,?_⟩;rw[aP rfl];exact g
def Iq:E AV->E AB->χ HR
 |[.own 0 m,.fn a []],[.row ε n 9 g t]=>γ {val:=.sl 0 9 0 0 (bO (V (ξ g) m)).length ζ,out:=[.row ε m 9 (J (Y (bO (V (ξ g) m)))) t],ap:=[ai a 194,ai n m,ak m g,ο (m<=2^38)]}
 |_,_=>ζ
def afZ:aK θ (xB oS):=az bt aku
def aka:au θ 193 (da [] Iq):=by
 refine XI afZ func193 rfl λS H hr s N=>?_
 unfold Iq at s;split at s
 ·rename_i m fi n g t
  cases s;simp only[F]at N;obtain⟨y,z,T,U,_⟩:=N;have z:=ci z;have y:=ci y;subst z y;have A:=aL U;have W:∀j,j<n->g j=J (ξ g) j:=λj b=>aN T j b
  generalize ξ g=f at*;have P:V (ξ (J (Y (V f n)))) n=V f n:=by
   have:=s7 (V f n)
   rwa [ch]at this
  have Q:fw (oS (V f n)) n=fw (λj=>gJ (f j)) n:=KM λj b=>(JI f b).symm
  have h:∀a,a<=n->gE f n a=V f n->aC (ad θ (xB oS) (Gi n (ge f a) a (m5 f n a) t (ge f n) (m5 f n n)) 100 sO [.own 0 n,xt] (e7 n (m5 f n a) t) (af 1)) (zY {val:=.sl 0 9 0 0 (bO (V f n)).length ζ,out:=[.row ε n 9 (J (Y (bO (V f n)))) t],ap:=[ai 194 194,ai n n,ak n g,ο (n<=2^38)]})->
    ∃(u:E AB)(R:O->χ Sum)(B:O),ab [.row ε n 9 g t] u/\(∀c,sO.body=γ c->eK θ u.length R c)/\aC (ad θ (xB oS) R B sO [.own 0 n,xt] u (af u.length)) (zY {val:=.sl 0 9 0 0 (bO (V f n)).length ζ,out:=[.row ε n 9 (J (Y (bO (V f n)))) t],ap:=[ai 194 194,ai n n,ak n g,ο (n<=2^38)]}):=by
   intro a b e X;refine⟨_,_,100,.cons (Ξ.row λj b=>?_) .nil,cz (by kernel_rfl) (aoL n a f t A b),X⟩;rw[W j b];show J f j=J (Y (gE f n a)) j
   rw[e,W_ f b]
  have C:bO (V f n)=V f n->aC (.out .ret [.own 0 n] [.row ε n 9 (J (Y (V f n))) t]) (zY {val:=.sl 0 9 0 0 (bO (V f n)).length ζ,out:=[.row ε n 9 (J (Y (bO (V f n)))) t],ap:=[ai 194 194,ai n n,ak n g,ο (n<=2^38)]}):=λe=>by rw[e,ch];exact Φ ⟨_,rfl,λM ν w v hR D=>alL rfl (aR _) hR D,ab.refl _⟩
  rcases Fz (λj=>gJ (f j)) n with⟨G,I⟩|⟨d,q0,G,q3,q4,I⟩
  ·have p:gE f n 0=V f n:=rfl
   refine h 0 (eF _) p ?_;show aC (ad θ (xB oS) (Gi n (ge f 0) 0 (Y (gE f n 0)) t (ge f n) (m5 f n n)) 100 sO [.own 0 n,xt] (e7 n (Y (gE f n 0)) t) (af 1)) _
   rw[p,YE,P,Q,I];exact ag (by simp only[F,ah,aa,bw,aB];exact⟨by simp,trivial,A⟩) (eS rfl (C (Mt G)))
  ·obtain⟨p,e1⟩:=adV q0 G q3
   refine h (d+1) (by omega) p ?_;have ek:ge f (d+1)=d:=e1;have hk:ge f n<=n:=vh f n;show aC (ad θ (xB oS) (Gi n (ge f (d+1)) (d+1) (Y (gE f n (d+1))) t (ge f n) (m5 f n n)) 100 sO [.own 0 n,xt] (e7 n (Y (gE f n (d+1))) t) (af 1)) _
   rw[p,ek,YE,P,Q,I];refine ag (by simp only[F,ah,aa,bw,aB];exact⟨by simp,trivial,A⟩) (cL (by simp) ?_);rw[bR (x:=(d:Z)+1) (by omega)];simp only[cY,ZM];rw[show a5 ((n:Z) -(ge f n:O))=n-ge f n by omega,show ge f n+(n-ge f n)=n by omega];refine ag ?_ (Φ ⟨_,rfl,λ_ _ _ _ _ D=>D,.cons (Ξ.row λq hq=>?_) .nil⟩)
   ·simp only[F,ah,aa,aB,aT]
    refine⟨cg ⟨rfl,ab.refl _⟩,?_⟩;omega
   ·show J (λq k=>bif Θ (ge f n) q&&Δ q n then 0 else m5 f n n q k) q=_
    refine GY λk hk9=>?_
    have b1:Δ q n=ε:=by rw[bS];exact hq
    rw[b1,Bool.and_true];by_cases r:q<ge f n
    ·have L:Θ (ge f n) q=η:=by
      cases hb:Θ (ge f n) q with
      |false=>rfl
      |true=>rw[aT]at hb;omega
     rw[L,a_];simp only[Y,gE,km r]
    ·have L:Θ (ge f n) q=ε:=by rw[aT];omega
     rw[L,aZ,asI (show(bO (V f n)).length<=q from aai r)]
 ·cases s
noncomputable abbrev q5:cA:=f260
def aqt(a b:Z):ad θ g0 K 100 f197 ([ι a,ι b].map .v) [] ed=bif a !=a then bif b !=b then rO [vI 0] []else rO [vI (-1:Z)] []else bif b !=b then rO [vI 1] []else bif ο (a<b)then rO [vI (-1:Z)] []else bif ο (a>b)then rO [vI 1] []else rO [vI 0] []:=by kernel_rfl
def uy(a b:Z):Z:=bif ο (a<b)then-1 else bif ο (a>b)then 1 else 0
def Kn:E τ->χ (τ×E κ)
 |[.int .i64 a,.int .i64 b]=>γ (.int .i64 (uy a b),[])
 |_=>ζ
def ajW:au θ 197 (aS Kn):=by
 refine en (n:=100) bt func197 rfl λf v g c h=>?_
 unfold Kn at c;split at c
 ·rename_i a b
  cases c;show Good (ad θ g0 K 100 f197 ([ι a,ι b].map .v) [] ed) _
  rw[aqt];refine sT ?_;have d:(a !=a)=η:=by simp
  have e:(b !=b)=η:=by simp
  rw[d,e,a_,a_];show yk (cond (ο (a<b)) (rv (ι (-1))) (cond (ο (a>b)) (rv (ι 1)) (rv (ι 0))))=_
  simp only[vp,tg,Al,RF,uy]
 ·cases c
def afW:aE:=ext g0 197 (aS Kn)
def afX:aK θ afW:=az bt ajW
def Kb(c:Z->Z->Z):E τ->χ (τ×E κ)
 |[.agg ⟨[.int .i64 a,.int .i64 _,.int .i64 _,.int .i64 _,.int .i64 _,.int .i64 _,.int .i64 _,.int .i64 _,.int .i64 _]⟩,.agg ⟨[.int .i64 b,.int .i64 _,.int .i64 _,.int .i64 _,.int .i64 _,.int .i64 _,.int .i64 _,.int .i64 _,.int .i64 _]⟩]=>γ (.int .i64 (c a b),[])
 |_=>ζ
def ajG:au θ 196 (aS (Kb uy)):=by
 refine en (n:=100) afX func196 rfl λb v c a d=>?_
 unfold Kb at a;split at a
 ·cases a
  exact one (by kernel_rfl)
 ·cases a
def A0(c:Z->Z->Z):aE:=ext g0 196 (aS (Kb c))
abbrev xu:AV:=.fn 196 []
abbrev s8:Ex->E O:=cx [0,1,2,3,8,9] [0,1,2,3,8] []
abbrev u9:Ex->E O:=cx [0,1,2,3,8] [] []
abbrev yU(m:O):AV:=.sl 0 9 0 0 m ζ
abbrev vM(m i j:O):E AV:=[yU m,.v (ι 0),.v (ι m),xu,.v (ι i),.v (ι j)]
abbrev rT(m i:O):E AV:=[yU m,.v (ι 0),.v (ι m),xu,.v (ι i)]
def amY(c:Z->Z->Z)(m n:O)(h:ω)(t:ae)(i j:O):let f:=(↑j:Z);let o:=ο (0+a5 f<n);let g:=[AB.row ε n 9 (J h) t];let k:=AV.fn (196:bq) [];let d:=(m:Z);let l:=AV.sl 0 9 0 0 m ζ;let a:=(0+a5 f);let p:=(f-(1:Z));let w:=[l,vI 0,vI d,k,vI (↑i:Z)];let r:=ο ((0:Z)<=aj .i64 p);let s:=ο (aj .i64 p<d);let u:=ο (f<d);let e:=(aj .i64 p);let b:=(0+a5 e);let v:=ο (0+a5 e<n);a0 θ (A0 c) 100 K (a4 2 q5) (aw 0 53 ((s8 .normal).zip (vM m i j))) (e7 n h t) (cJ 53 s8 1)
 =bif ο (f> (0:Z))then Ω [u,o,r,s,v] (bif ο (c (h a 0) (h b 0)<(0:Z))then Ω [r,s,v,u,o,u,o,r,s,v] (ao.out .normal [l,vI 0,vI d,k,vI (↑i:Z),vI e] [AB.row ε n 9 (λq=>[ι (bif ai q b then h a 0 else bif ai q a then h b 0 else h q 0),ι (bif ai q b then h a 1 else bif ai q a then h b 1 else h q 1),ι (bif ai q b then h a 2 else bif ai q a then h b 2 else h q 2),ι (bif ai q b then h a 3 else bif ai q a then h b 3 else h q 3),ι (bif ai q b then h a 4 else bif ai q a then h b 4 else h q 4),ι (bif ai q b then h a 5 else bif ai q a then h b 5 else h q 5),ι (bif ai q b then h a 6 else bif ai q a then h b 6 else h q 6),ι (bif ai q b then h a 7 else bif ai q a then h b 7 else h q 7),ι (bif ai q b then h a 8 else bif ai q a then h b 8 else h q 8)]) t])else ao.out (Ex.exit 2) w g)else ao.out (Ex.exit 2) w g:=by intros;kernel_rfl
noncomputable abbrev UP(m n i:O)(h:ω)(t:ae)(b:ω):O->χ Sum:=bJ 2 (bD 53 (s8 .normal) 1 (vM m i i) (e7 n h t) (λa=>a .normal (aw 0 53 ([0,1,2,3,8].zip (rT m i))) (e7 n b t)))
def amW(c:Z->Z->Z)(m n:O)(h:ω)(t:ae)(i:O)(b:ω):let a:=(↑i:Z);let d:=[AB.row ε n 9 (J h) t];let e:=AV.fn (196:bq) [];let f:=AV.sl 0 9 0 0 m ζ;a0 θ (A0 c) 100 (UP m n i h t b) (a4 0 q5) (aw 0 53 ((u9 .normal).zip (rT m i))) (e7 n h t) (cJ 53 u9 1)
 =bif ο (a<(m:Z))then Ω [cw ([f,vI 0,vI (m:Z),e,vI a,vI a]=vM m i i/\ab d (e7 n h t))] (ao.out .normal [f,vI 0,vI (m:Z),e,vI (aj .i64 (a+(1:Z)))] [AB.row ε n 9 (J b) t])else ao.out (Ex.exit 0) [] d:=by intros;kernel_rfl
noncomputable abbrev LR(m n:O)(h:ω)(t:ae)(b:ω):O->χ Sum:=bJ 0 (bD 53 (u9 .normal) 1 (rT m 1) (e7 n h t) (λa=>a .normal (aw 0 53 []) (e7 n b t)))
def aq6(m n:O)(h:ω)(t:ae)(a:ω):ad θ g0 (LR m n h t a) 100 q5 [yU m,.v (ι 0),.v (ι m),xu] (e7 n h t) (af 1)=Ω [cw ([AV.sl 0 9 0 0 m ζ,vI 0,vI (m:Z),AV.fn (196:bq) [],vI 1]=rT m 1/\ab [AB.row ε n 9 (J h) t] (e7 n h t))] (rO [AV.Ψ []] [AB.row ε n 9 (J a) t]):=by kernel_rfl
def ej:Sum:=λ_ _ _=>.err
def amX(c:Z->Z->Z)(m n:O)(h:ω)(t:ae)(i:O):a0 θ (A0 c) 100 (bJ 2 ej) (a4 0 q5) (aw 0 53 ((u9 .normal).zip (rT m i))) (e7 n h t) (cJ 53 u9 1)=bif ο ((↑i:Z)<(m:Z))then ao.err else ao.out (Ex.exit 0) [] [AB.row ε n 9 (J h) t]:=by kernel_rfl
def nZ{P:aF}{m0:O}{b:Code}:cp P m0 b ej:=by intro M g d hM e T H c Q a w h f;exact f.elim
def I0(o:E Wh->E Wh):E AV->E AB->χ HR
 |[.sl 0 9 0 0 m ζ,.v (.int .i64 0),.v (.int .i64 b),.fn a []],[.row ε n 9 g t]=>γ {val:=.Ψ [],out:=[.row ε m 9 (J (Y (o (V (ξ g) m)))) t],ap:=[ai a 196,ο (b=m),Θ m n,ak n g,ο (m<=2^38)]}
 |_,_=>ζ
def u2{P:aF}{m0 id:O}{S:Sum}{c f:Code}(h:nU id f=[.block id (.loop c)])(g:cp P m0 (.block id (.loop c)) S):eK P m0 (bJ id S) f:=by
 intro j i d b e;unfold bJ at d;cases a:ai j id with
 |false=>rw[a]at d;cases d
 |true=>rw[a]at d;cases d;rw[ci a]at e;rw[h]at e;simp at e;subst e;exact g
def adr(a b:Z):ο (uy a b<0)=ο (a<b):=by
 unfold uy;by_cases h:a<b
 ·rw[bA h];rfl
 ·by_cases c:a>b
  ·rw[eJ h,bA c];rfl
  ·rw[eJ h,eJ c];rfl
def Y7(L:E Wh)(j:O):Y L j 0=gL L j:=by unfold Y gL;cases L[j]?<;>rfl
def S8:aK θ (A0 uy):=az bt ajG
def aoU(m i:O)(c:E Wh)(t:ae)(y:m<=2^38)(z:i<m)(r:c.length=m):cp θ 1 (.block 2 (.loop (a4 2 q5))) (bD 53 (s8 .normal) 1 (vM m i i) (e7 m (Y c) t) (λa=>a .normal (aw 0 53 ([0,1,2,3,8].zip (rT m i))) (e7 m (Y (kI i c)) t))):=by
 refine Bv S8 (n:=100) (m:=1) (m0:=1) (lv:=s8) (σ:=E Wh×O) (λs=>vM m i s.2) (λs=>e7 m (Y s.1) t) (λs=>s.1.length=m/\s.2<=i/\kI s.2 s.1=kI i c) (λs=>s.2) (c,i) (λ_=>K) (du rfl rfl rfl) (aR _) ⟨r,aR _,rfl⟩ λa Q g s u=>⟨cT _ _ _,?_⟩
 obtain⟨L,j⟩:=s;obtain⟨p,v,h⟩:=u;simp only at p v h;have done:kI j L=L->aC (.out (.exit 2) (rT m i) (e7 m (Y L) t)) (z6 53 2 s8 (λs:E Wh×O=>vM m i s.2) (λs=>e7 m (Y s.1) t) (λd=>(d.1.length=m/\d.2<=i/\kI d.2 d.1=kI i c)/\d.2<j) a Q):=λe=>by refine Φ ⟨_,ab.refl _,?_⟩;rw[aP rfl];rw[<-h,e]at g;exact g
 show aC (a0 θ (A0 uy) 100 K (a4 2 q5) (aw 0 53 ((s8 .normal).zip (vM m i j))) (e7 m (Y L) t) (cJ 53 s8 1)) _
 rw[amY];refine ay (λf=>?_) λf=>?_
 ·have f:=aL f
  obtain⟨j,rfl⟩:∃q,j=q+1:=⟨j-1,by omega⟩;have w:aj a7 (((j+1:O):Z) -1)=(j:Z):=by rw[bR (by omega)];omega
  simp only[w,cY,bF];refine ag (by simp only[F,ah,aa,aB];omega) ?_;rw[adr,Y7,Y7];refine ay (λb=>?_) λb=>?_
  ·have b:=aL b
   have x:kI (j+1) L=kI j (kJ L j):=by rw[kI,aP b]
   refine ag (by simp only[F,ah,aa,aB];omega) (Φ ⟨(kJ L j,j),⟨⟨by rw[Yb];exact p,by show j<=i;omega,by rw[<-h,x]⟩,ft j⟩,rfl,.cons (Ξ.row λq D=>?_) .nil⟩);show J (λq k=>bif ai q j then Y L (j+1) k else bif ai q (j+1)then Y L j k else Y L q k) q=J (Y (kJ L j)) q
   refine GY λk g=>?_
   rw[asJ L j q (by omega)];by_cases l:q=j
   ·rw[l,aP rfl,show ai j j=ε from l5 j,aZ]
   ·rw[bi l,Ad l,a_]
    by_cases o:q=j+1
    ·rw[o,aP rfl,show ai (j+1) (j+1)=ε from l5 _,aZ]
    ·rw[bi o,Ad o,a_]
  ·have b:=cE b
   exact done (by rw[kI,bi b])
 ·have f:=cE f
  have:j=0:=by omega
  subst this;exact done rfl
def aob(L:E Wh)(n:O):(qu L n).length=L.length:=(G6 L n).length_eq
def aoT(m:O)(L:E Wh)(t:ae)(f:m<=2^38)(e:L.length=m):cp θ 1 (.block 0 (.loop (a4 0 q5))) (bD 53 (u9 .normal) 1 (rT m 1) (e7 m (Y L) t) (λa=>a .normal (aw 0 53 []) (e7 m (Y (lw L)) t))):=by
 refine dQ S8 (n:=100) (m:=1) (m0:=1) (lv:=u9) (λi=>rT m (i+1)) (λi=>e7 m (Y (qu L (i+1))) t) (λ_=>True) (m-1) (λi=>bif Δ (i+1) m then UP m m (i+1) (Y (qu L (i+1))) t (Y (kI (i+1) (qu L (i+1))))else bJ 2 ej) (du rfl rfl rfl) (aR _) trivial λa Q g i _ h=>?_
 by_cases d:i+1<m
 ·have b:Δ (i+1) m=ε:=by rw[bS];exact d
  rw[b,aZ];refine⟨u2 (by kernel_rfl) (aoU m (i+1) (qu L (i+1)) t f d (by rw[aob];exact e)),?_⟩;rw[amW];refine eS (bA (by omega)) (ag (by rw[F];exact⟨cg ⟨rfl,ab.refl _⟩,rfl⟩) ?_);rw[bR (x:=((i+1:O):Z)+1) (by omega)];exact Φ ⟨i+1,⟨rfl,by omega,trivial⟩,rfl,ab.refl _⟩
 ·have b:Δ (i+1) m=η:=by
   cases j:Δ (i+1) m with
   |false=>rfl
   |true=>rw[bS]at j;omega
  rw[b,a_];refine⟨u2 (c:=a4 2 q5) (by kernel_rfl) nZ,?_⟩;have k:qu L (i+1)=lw L:=by
   unfold lw;rw[e];by_cases l:m=0
   ·have:i=0:=by omega
    subst this l;rfl
   ·rw[show i+1=m by omega]
  rw[k,amX];refine cL (eJ (by omega)) (Φ ⟨_,ab.refl _,?_⟩);rw[aP rfl];exact g
def Qz:E AV->E AB->χ HR:=I0 lw
def akw:au θ 260 (da [] Qz):=by
 refine lV bt func260 rfl λi H p a h=>?_
 unfold Qz I0 at a;split at a
 ·rename_i m b q n g t
  cases a;simp only[F]at h;obtain⟨c,d,e,k,f,_⟩:=h;have c:=ci c;have d:=aL d;have f:=aL f;have e:=Nat.le_of_ble_eq_true e;subst c d;have l:(V (ξ g) m).length=m:=ch _ _;refine⟨e7 m (Y (V (ξ g) m)) t,LR m m (Y (V (ξ g) m)) t (Y (lw (V (ξ g) m))),100,.cons (Ξ.cut e λj o=>?_) .nil,cz (by kernel_rfl) (aoT m (V (ξ g) m) t f l),?_⟩
  ·rw[W_ _ o]
   exact aN k j (by omega)
  ·show aC (ad θ g0 (LR m m (Y (V (ξ g) m)) t (Y (lw (V (ξ g) m)))) 100 q5 [yU m,.v (ι 0),.v (ι m),xu] (e7 m (Y (V (ξ g) m)) t) (af 1)) _
   rw[aq6];exact ag (by rw[F];exact⟨cg ⟨rfl,ab.refl _⟩,rfl⟩) (Φ ⟨rfl,ab.refl _⟩)
 ·cases a
noncomputable abbrev Sj:cA:=f195
def Tk(o:E Wh->E Wh):aE:=ext g0 260 (da [] (I0 o))
def arJ(o:E Wh->E Wh)(n:O)(g:O->E τ)(t:ae):∀m,m<=12->ad θ (Tk o) K 100 Sj [yU m,xu] [.row ε n 9 g t] (af 1)=Ω [Θ m n,ak n g] (.out .ret [.Ψ []] [.row ε m 9 (J (Y (o (V (ξ g) m)))) t])
 |0,_=>by kernel_rfl
 |1,_=>by kernel_rfl
 |2,_=>by kernel_rfl
 |3,_=>by kernel_rfl
 |4,_=>by kernel_rfl
 |5,_=>by kernel_rfl
 |6,_=>by kernel_rfl
 |7,_=>by kernel_rfl
 |8,_=>by kernel_rfl
 |9,_=>by kernel_rfl
 |10,_=>by kernel_rfl
 |11,_=>by kernel_rfl
 |12,_=>by kernel_rfl
 |n+13,h=>aO h (by omega)
def Jf(o:E Wh->E Wh):E AV->E AB->χ HR
 |[.sl 0 9 0 0 m ζ,.fn a []],[.row ε n 9 g t]=>γ {val:=.Ψ [],out:=[.row ε m 9 (J (Y (o (V (ξ g) m)))) t],ap:=[ai a 196,Θ m n,ak n g,ο (m<=12)]}
 |_,_=>ζ
def ak7:au θ 195 (da [] (Jf lw)):=by
 refine lV (az bt akw) func195 rfl λe H i a d=>?_
 unfold Jf at a;split at a
 ·rename_i m j n g t
  cases a;simp only[F]at d;obtain⟨b,f,h,c,_⟩:=d;have b:=ci b;have c:=aL c;subst b;refine⟨[.row ε n 9 g t],K,100,ab.refl _,dq _,?_⟩;show aC (ad θ (Tk lw) K 100 Sj [yU m,xu] [.row ε n 9 g t] (af 1)) _
  rw[arJ _ _ _ _ m c];exact ag (by simp only[F,ah,aa];exact⟨f,h⟩) (Φ ⟨rfl,ab.refl _⟩)
 ·cases a
def QE(o:(O->O->Z)->Z->O->Z):E AV->E AB->χ HR
 |[.own 0 m,.fn 191 [.ptr 1 0 0 0]],[.row η n 9 g t,.cells [.v (.int .i64 a),.v (.int .i64 b),.v (.int .i64 c),.v (.int .i64 d),.v (.int .i64 e),.v (.int .i64 f),.v (.int .i64 h),.v (.int .i64 i),.v (.int .i64 j)] k]=>γ {val:=.v (ι (o (ξ g) a m)),out:=[.row η n 9 g t,.cells [.v (.int .i64 a),.v (.int .i64 b),.v (.int .i64 c),.v (.int .i64 d),.v (.int .i64 e),.v (.int .i64 f),.v (.int .i64 h),.v (.int .i64 i),.v (.int .i64 j)] k],ap:=[ai n m,ak m g,ο (m<=2^38)]}
 |_,_=>ζ
def q2(a:(O->Z)->(O->Z)->O->Z):E τ->χ (τ×E κ)
 |[.agg ⟨[.int .i64 b,.int .i64 c,.int .i64 d,.int .i64 e,.int .i64 f,.int .i64 g,.int .i64 h,.int .i64 i]⟩,.agg ⟨[.int .i64 j,.int .i64 k,.int .i64 l,.int .i64 m,.int .i64 n,.int .i64 o,.int .i64 p,.int .i64 q]⟩]=>γ (dn (a (v8 b c d e f g h i) (v8 j k l m n o p q)),[])
 |_=>ζ
def K_(o:(O->O->Z)->Z->O->Z)(a:(O->Z)->κ)(b:(O->Z)->(O->Z)->O->Z):aE:=ext (ext (ext g0 145 (aS (m2 a))) 192 (aS (q2 b))) 190 (da [ε] (QE o))
abbrev x':Ex->E O:=cx [4,9,10,11] [4] [2,3]
abbrev jE(m:O)(f:ω)(t:ae)(n:O)(h:ω):E AB:=[.row η m 9 (J f) t,.row ε n 9 (J h) 112]
abbrev tC(m n i:O):E AV:=[.own 1 n,.sl 0 9 0 0 m ζ,.v (ι m),.v (ι i)]
def anl(o:(O->O->Z)->Z->O->Z)(G:(O->Z)->κ)(c:(O->Z)->(O->Z)->O->Z)(m:O)(f:ω)(t:ae)(n:O)(h:ω)(i:O):let e:=(0:Z);let y:=(ξ (J h));let z:=AB.row η m 9 (J f) t;let D:=(↑n:Z);let s:=ο (D<(↑(n+1):Z));let u:=ο (a5 D<n+1);let A:=[AV.v (dk ζ 0 0),vB η];let k:=(↑i:Z);let r:=(m:Z);let B:=AV.sl 0 9 0 0 m ζ;let l:=(0+a5 k);let d:=(v8 (f l 1) (f l 2) (f l 3) (f l 4) (f l 5) (f l 6) (f l 7) (f l 8));let a:=(a5 D);let C:=vI (aj .i64 (k+(1:Z)));let p:=(f l 0);let g:=(v8 (bif Δ a n then h a 1 else e) (bif Δ a n then h a 2 else e) (bif Δ a n then h a 3 else e) (bif Δ a n then h a 4 else e) (bif Δ a n then h a 5 else e) (bif Δ a n then h a 6 else e) (bif Δ a n then h a 7 else e) (bif Δ a n then h a 8 else e));let b:=(a5 (o y p n));let j:=(v8 (h b 1) (h b 2) (h b 3) (h b 4) (h b 5) (h b 6) (h b 7) (h b 8));let v:=ο (a5 (o y p n)<n);let w:=ο (e<=o y p n);let x:=ο (o y p n<D);a0 θ (K_ o G c) 100 K (a4 0 HX) (aw 0 57 ((x' .normal).zip (tC m n i))) (jE m f t n h) (cJ 57 x' 1)
 =bif ο (k<r)then Ω [ο (k<r),ο (0+a5 k<m),ai n n,ak n (J h),ο (n<=274877906944)] (bif ο (o y p n<e)then Ω [Θ n n,Θ (n+1) 549755813888,s,u,s,u,s,u] (bif !G (v8 (bif ai a a then c g d 0 else bif Δ a n then h a 1 else e) (bif ai a a then c g d 1 else bif Δ a n then h a 2 else e) (bif ai a a then c g d 2 else bif Δ a n then h a 3 else e) (bif ai a a then c g d 3 else bif Δ a n then h a 4 else e) (bif ai a a then c g d 4 else bif Δ a n then h a 5 else e) (bif ai a a then c g d 5 else bif Δ a n then h a 6 else e) (bif ai a a then c g d 6 else bif Δ a n then h a 7 else e) (bif ai a a then c g d 7 else bif Δ a n then h a 8 else e))then rO A [z]else ao.out .normal [AV.own 1 (n+1),B,vI r,C] [z,AB.row ε (n+1) 9 (λq=>[ι (bif ai q a then bif Δ a n then h a 0 else f l 0 else bif Δ q n then h q 0 else f l 0),ι (bif ai q a then c g d 0 else bif Δ q n then h q 1 else e),ι (bif ai q a then c g d 1 else bif Δ q n then h q 2 else e),ι (bif ai q a then c g d 2 else bif Δ q n then h q 3 else e),ι (bif ai q a then c g d 3 else bif Δ q n then h q 4 else e),ι (bif ai q a then c g d 4 else bif Δ q n then h q 5 else e),ι (bif ai q a then c g d 5 else bif Δ q n then h q 6 else e),ι (bif ai q a then c g d 6 else bif Δ q n then h q 7 else e),ι (bif ai q a then c g d 7 else bif Δ q n then h q 8 else e)]) 112])else Ω [w,x,v,w,x,v,w,x,v] (bif !G (v8 (bif ai b b then c j d 0 else h b 1) (bif ai b b then c j d 1 else h b 2) (bif ai b b then c j d 2 else h b 3) (bif ai b b then c j d 3 else h b 4) (bif ai b b then c j d 4 else h b 5) (bif ai b b then c j d 5 else h b 6) (bif ai b b then c j d 6 else h b 7) (bif ai b b then c j d 7 else h b 8))then rO A [z]else ao.out .normal [AV.own 1 n,B,vI r,C] [z,AB.row ε n 9 (λq=>[ι (bif ai q b then h b 0 else h q 0),ι (bif ai q b then c j d 0 else h q 1),ι (bif ai q b then c j d 1 else h q 2),ι (bif ai q b then c j d 2 else h q 3),ι (bif ai q b then c j d 3 else h q 4),ι (bif ai q b then c j d 4 else h q 5),ι (bif ai q b then c j d 5 else h q 6),ι (bif ai q b then c j d 6 else h q 7),ι (bif ai q b then c j d 7 else h q 8)]) 112]))else ao.out (Ex.exit 0) [AV.own 1 n] [z,AB.row ε n 9 (J h) 112]:=by intros;kernel_rfl
noncomputable abbrev L2(m:O)(f:ω)(t:ae)(c:κ)(n:O)(h:ω):O->χ Sum:=bJ 0 (bD 57 (x' .normal) 1 (tC m 0 0) (jE m f t 0 (Y [])) (λa=>cond c (a .normal (aw 0 57 [(4,.own 1 n)]) (jE m f t n h)) (a .ret (aw 0 57 [(2,.v (.slice ζ 0 0)),(3,.v (.bool η))]) [.row η m 9 (J f) t])))
def QB(a:E Wh->E Wh):E AV->E AB->χ HR
 |[.own 0 m,.fn b []],[.row ε n 9 g t]=>γ {val:=.sl 0 9 0 0 (a (V (ξ g) m)).length ζ,out:=[.row ε m 9 (J (Y (a (V (ξ g) m)))) t],ap:=[ai b 194,ai n m,ak m g,ο (m<=2^38)]}
 |_,_=>ζ
def pM(a:E Wh->κ):E SA->χ FR
 |[.row m g]=>γ {val:=.v (.bool (a (V (ξ g) m))),ap:=[ak m g,ο (m<=2^39)]}
 |_=>ζ
def F3(c a:E Wh->E Wh)(b:E Wh->κ):aE:=ext (ext (ext g0 123 (am bP (pM b))) 193 (da [] (QB c))) 195 (da [] (Jf a))
def arY(k b:E Wh->E Wh)(d:E Wh->κ)(m:O)(f:ω)(t:ae)(c:κ)(n:O)(h:ω):let e:=(k (V (ξ (J h)) n));let a:=(b_ e);let g:=AB.row η m 9 (J f) t;let l:=[AV.Ψ [AV.v (dk ζ 0 0),vB η]];let j:=(↑a:Z);let o:=(a5 (j-(0:Z)));let i:=(Y e);let p:=ο (j<=j);ad θ (F3 k b d) (L2 m f t c n h) 100 HX [.sl 0 9 0 0 m ζ] [.row η m 9 (J f) t] (af 1)
 =Ω [cw ([AV.own 1 0,AV.sl 0 9 0 0 m ζ,vI (m:Z),vI 0]=tC m 0 0/\ab [g,AB.row ε 0 9 (λ_=>[]) 112] (jE m f t 0 (Y [])))] (bif c then Ω [ai n n,ak n (J h),ο (n<=274877906944),Θ (0+b_ e) n,ak a λq=>J i (0+q),ο (b_ e<=549755813888)] (bif !d (V (ξ λq=>J i (0+q)) a)then rO l [g]else Ω [Θ a n,ak n (J i),ο (b_ e<=12),p,p] (rO [AV.Ψ [AV.sl 1 9 0 0 o (γ o),vB ε]] [g,AB.row ε a 9 (J (Y (b (V (ξ (J i)) a)))) 112]))else rO l [g]):=by intros;kernel_rfl
def abG(h:ω)(x:Z):kS (ξ (J h)) x=kS h x:=rfl
def aa2:QE (λf x m=>fw (kS f x) m)=It:=by
 funext l H
 rfl
def Sb:q2 qp=Fl:=by
 funext l
 rfl
def agk:aK θ (K_ (λf x m=>fw (kS f x) m) (λv=>bz (bC v)) qp):=by unfold K_;rw[aa2,Sb,pW];exact az (az (az bt Cg) MP) aks
def Q_(n:O):Δ n n=η:=by
 cases a:Δ n n with
 |false=>rfl
 |true=>rw[bS]at a;omega
def EF{a b:O}(h:a<b):Δ a b=ε:=by rw[bS];exact h
def agO(acc:E Wh)(x:Wh):(eG acc x).length<=acc.length+1:=by
 induction acc with
 |nil=>simp[eG]
 |cons y l a=>
  unfold eG;split
  ·simp
  ·simp only[cn]
   omega
def Nt:∀{xs acc A:E Wh},runT eG acc xs=γ A->A.length<=acc.length+xs.length
 |[],acc,A,h=>by simp only[runT,ar]at h;subst h;simp
 |x::xs,acc,A,h=>by
  simp only[runT]at h;split at h
  ·have:=Nt h
   have a:=agO acc x;simp only[cn];omega
  ·cases h
def n8(L:E Wh):Prop:=∀w∈L,mY w.r
def iQ(f:ω)(i:O):E Wh:=(runT eG [] (V f i)).getD []
def wT{f:O->O->Z}{i:O}{A:E Wh}(h:runT eG [] (V f i)=γ A):iQ f i=A:=by rw[iQ,h];rfl
def ai2{A:E Wh}{f:O->Z}{b:O->Z}(a:∀k,k<8->b k=(ga jj (bm f).r).f k)(q:O)(g:q<A.length+1):[ι (bif ai q A.length then f 0 else bif Δ q A.length then Y A q 0 else f 0),ι (bif ai q A.length then b 0 else bif Δ q A.length then Y A q 1 else 0),ι (bif ai q A.length then b 1 else bif Δ q A.length then Y A q 2 else 0),ι (bif ai q A.length then b 2 else bif Δ q A.length then Y A q 3 else 0),ι (bif ai q A.length then b 3 else bif Δ q A.length then Y A q 4 else 0),ι (bif ai q A.length then b 4 else bif Δ q A.length then Y A q 5 else 0),ι (bif ai q A.length then b 5 else bif Δ q A.length then Y A q 6 else 0),ι (bif ai q A.length then b 6 else bif Δ q A.length then Y A q 7 else 0),ι (bif ai q A.length then b 7 else bif Δ q A.length then Y A q 8 else 0)]=J (Y (A++[⟨f 0,ga jj (bm f).r⟩])) q:=by
 by_cases e:q=A.length
 ·subst e
  have d:Y (A++[⟨f 0,ga jj (bm f).r⟩]) A.length=fU ⟨f 0,ga jj (bm f).r⟩:=by rw[rY (by simp)];simp
  simp only[show ai A.length A.length=ε from l5 _,aZ,a 0 (by omega),a 1 (by omega),a 2 (by omega),a 3 (by omega),a 4 (by omega),a 5 (by omega),a 6 (by omega),a 7 (by omega),J,d];rfl
 ·have c:q<A.length:=by omega
  have d:Y (A++[⟨f 0,ga jj (bm f).r⟩]) q=Y A q:=by
   funext k
   simp only[Y,km c]
  simp only[Ad e,EF c,aZ,a_,J,d]
def alA{A:E Wh}{s:Z}{r:Cy}{b:O->Z}{i:O}(c:i<A.length)(hs:A[i].s=s)(a:∀k,k<8->b k=r.f k)(q:O):[ι (bif ai q i then Y A i 0 else Y A q 0),ι (bif ai q i then b 0 else Y A q 1),ι (bif ai q i then b 1 else Y A q 2),ι (bif ai q i then b 2 else Y A q 3),ι (bif ai q i then b 3 else Y A q 4),ι (bif ai q i then b 4 else Y A q 5),ι (bif ai q i then b 5 else Y A q 6),ι (bif ai q i then b 6 else Y A q 7),ι (bif ai q i then b 7 else Y A q 8)]=J (Y (A.set i ⟨s,r⟩)) q:=by
 by_cases e:q=i
 ·subst e
  have d:Y A q 0=s:=by rw[rY c,<-hs];rfl
  simp only[d,show ai q q=ε from l5 _,aZ,a 0 (by omega),a 1 (by omega),a 2 (by omega),a 3 (by omega),a 4 (by omega),a 5 (by omega),a 6 (by omega),a 7 (by omega),J,Ox A q _ q c,aP];rfl
 ·simp only[Ad e,a_,J,Ox A i _ q c,bi e]
def apc(m:O)(f:ω)(t:ae)(X:m<=2^38)(B:n8 (V f m)):cp θ 1 (.block 0 (.loop (a4 0 HX))) (bD 57 (x' .normal) 1 (tC m 0 0) (jE m f t 0 (Y [])) (λa=>cond (runT eG [] (V f m)).isSome (a .normal (aw 0 57 [(4,.own 1 (iQ f m).length)]) (jE m f t (iQ f m).length (Y (iQ f m)))) (a .ret (aw 0 57 [(2,.v (.slice ζ 0 0)),(3,.v (.bool η))]) [.row η m 9 (J f) t]))):=by
 refine dQ agk (n:=100) (m:=1) (lv:=x') (λi=>tC m (iQ f i).length i) (λi=>jE m f t (iQ f i).length (Y (iQ f i))) (λi=>(runT eG [] (V f i)).isSome=ε) m (λ_=>K) (du rfl rfl rfl) (aR _) rfl λa Q s i L M=>⟨cT _ _ _,?_⟩
 obtain⟨A,z⟩:=r9.1 L;have H:=wT z;have hl:A.length<=i:=by have:=Nt z;rw[ch]at this;simpa using this
 have c:runT eG [] (V f (i+1))=if bz (dR A (bm (f i)))=ε then γ (eG A (bm (f i)))else ζ:=by rw[gw,Nx,z]
 rw[anl,H];refine ay (λu=>?_) λu=>?_
 ·have u:=aL u
  have g:i<m:=by omega
  have N:mY (bm (f i)).r:=B _ (g8 (nb f g));have d:∀(r:Cy),dR A (bm (f i))=r->bz r=η->aC (.out .ret [.v (.slice ζ 0 0),.v (.bool η)] [.row η m 9 (J f) t]) (z6 57 0 x' (λi=>tC m (iQ f i).length i) (λi=>jE m f t (iQ f i).length (Y (iQ f i))) (λP=>P=i+1/\i<m/\(runT eG [] (V f (i+1))).isSome=ε) a Q):=λr R S=>by
   rw[R,S]at c;obtain⟨ys,e⟩:=Mb f (show i+1<=m by omega);have T:runT eG [] (V f m)=ζ:=by rw[e];exact Nw _ _ _ _ (by simpa using c)
   rw[T]at s;exact Φ ⟨_,ab.refl _,s⟩
  simp only[cY,bF,abG];rw[bR (x:=(i:Z)+1) (by omega)];refine ag (by simp only[F,ah,aa,aB,bw,bo,h_];omega) ?_;rcases Fz (kS (Y A) (f i 0)) A.length with⟨C,D⟩|⟨v,h,C,U,q4,D⟩
  ·have b:∀x∈A,x.s≠ (bm (f i)).s:=by intro x W;obtain⟨j,w,rfl⟩:=List.mem_iff_getElem.1 W;have:=vi (bad:=kS (Y A) (f i 0)) C w;simp only[kS,rY w,dT]at this;exact this
   have y:dR A (bm (f i))=ga jj (bm (f i)).r:=by rw[ao7 b,RP N]
   have G:=agP b;rw[D];refine eS rfl ?_;simp only[h_,Q_,aZ,a_];refine ag (by simp only[F,ah,aa,aB,aT];omega) (ay (λq=>?_) λq=>?_)
   ·refine d _ y ?_
    have l:(!(bz (ga jj (bm (f i)).r)))=ε:=q;simpa using l
   ·have o:(!(bz (ga jj (bm (f i)).r)))=η:=q
    have l:bz (ga jj (bm (f i)).r)=ε:=by simpa using o
    rw[y,aP l,G]at c;refine Φ ⟨i+1,⟨rfl,g,by rw[c];rfl⟩,?_,?_⟩
    ·show _=tC m (iQ f (i+1)).length (i+1)
     rw[wT c,cv];rfl
    ·show ab _ (jE m f t (iQ f (i+1)).length (Y (iQ f (i+1))))
     rw[wT c,cv];refine .cons (Ξ.refl _) (.cons (Ξ.row λq I=>?_) .nil);exact ai2 (λk s=>by rcases(by omega:k=0\/k=1\/k=2\/k=3\/k=4\/k=5\/k=6\/k=7)with rfl|rfl|rfl|rfl|rfl|rfl|rfl|rfl<;>rfl) q I
  ·have p:A[v].s=(bm (f i)).s:=by have:=U;simp only[kS,rY h,beq_iff_eq]at this;exact this
   have b:∀j (w:j<v),(A[j]'(by omega)).s≠ (bm (f i)).s:=by intro j w;have:=vi (bad:=kS (Y A) (f i 0)) C w;simp only[kS,rY (show j<A.length by omega),dT]at this;exact this
   have y:=XZ h p b;have G:=Ul h p b;rw[D];refine cL (by simp) ?_;simp only[cY,h_,aZ];refine ag (by simp only[F,ah,aa,aB];omega) (ay (λq=>?_) λq=>?_)
   ·refine d _ y ?_
    simp only[rY h]at q;have l:(!(bz (ga A[v].r (bm (f i)).r)))=ε:=q;simpa using l
   ·simp only[rY h]at q
    have o:(!(bz (ga A[v].r (bm (f i)).r)))=η:=q;have l:bz (ga A[v].r (bm (f i)).r)=ε:=by simpa using o
    rw[y,aP l,G]at c;refine Φ ⟨i+1,⟨rfl,g,by rw[c];rfl⟩,?_,?_⟩
    ·show _=tC m (iQ f (i+1)).length (i+1)
     rw[wT c,List.length_set];rfl
    ·show ab _ (jE m f t (iQ f (i+1)).length (Y (iQ f (i+1))))
     rw[wT c,List.length_set];refine .cons (Ξ.refl _) (.cons (Ξ.row λq I=>?_) .nil);refine alA h p (λk s=>?_) q;rw[rY h];rcases(by omega:k=0\/k=1\/k=2\/k=3\/k=4\/k=5\/k=6\/k=7)with rfl|rfl|rfl|rfl|rfl|rfl|rfl|rfl<;>rfl
 ·have u:=cE u
  have:i=m:=by omega
  subst this;refine Φ ⟨_,ab.refl _,?_⟩;rw[aP rfl];rw[z,H]at s;exact s
def aa0:QB bO=Iq:=by
 funext l H
 rfl
def so:pM aG=ui:=by
 funext l
 rfl
def Ts:aK θ (F3 bO lw aG):=by unfold F3;rw[aa0,so];exact az (az (az bt Ci) aka) ak7
noncomputable def dS(L:E Wh):κ:=cw (n8 L)
def bg(L:E Wh):κ:=(im L).isSome
abbrev js(T:E Wh):AV:=.Ψ [.sl 0 9 0 0 T.length (γ T.length),.v (.bool ε)]
abbrev eQ:AV:=.Ψ [.v (.slice ζ 0 0),.v (.bool η)]
abbrev fR(T:E Wh):E AB:=[.row ε T.length 9 (J (Y T)) 112]
noncomputable def Iy:E SA->χ FR
 |[.row m g]=>γ {val:=js (bv (V (ξ g) m)),new:=fR (bv (V (ξ g) m)),ap:=[ak m g,ο (m<=2^38),dS (V (ξ g) m),bg (V (ξ g) m)]}
 |_=>ζ
noncomputable def Iw:E SA->χ FR
 |[.row m g]=>γ {val:=eQ,ap:=[ak m g,ο (m<=2^38),dS (V (ξ g) m),!bg (V (ξ g) m)]}
 |_=>ζ
def fo(L:E Wh)(n:O)(h:L.length=n):V (ξ (J (Y L))) n=L:=by subst h;exact s7 L
def U6(L:E Wh)(n:O)(h:L.length=n):V (ξ λq=>J (Y L) (0+q)) n=L:=by
 have:(λq=>J (Y L) (0+q))=J (Y L):=by funext q;rw[bF]
 rw[this];exact fo L n h
def an'(L:E Wh):(lw L).length=L.length:=(NL L).length_eq
def Yu(m:O)(f:ω)(t:ae)(n:m<=2^38)(e:n8 (V f m))(Q:Ex->E AV->E AB->Prop)(k:bg (V f m)=ε->∀T,bv (V f m)=T->Q .ret [.Ψ [.sl 1 9 0 0 T.length (γ T.length),.v (.bool ε)]] [.row η m 9 (J f) t,.row ε T.length 9 (J (Y T)) 112])(g:bg (V f m)=η->Q .ret [eQ] [.row η m 9 (J f) t]):aC (ad θ (F3 bO lw aG) (L2 m f t (runT eG [] (V f m)).isSome (iQ f m).length (Y (iQ f m))) 100 HX [.sl 0 9 0 0 m ζ] [.row η m 9 (J f) t] (af 1)) Q:=by
 have a:=apH e;rw[arY];refine ag (by rw[F];exact⟨cg ⟨rfl,.cons (Ξ.refl _) (.cons (Ξ.row λj o=>by omega) .nil)⟩,rfl⟩) ?_;refine ay (λq=>?_) λq=>?_
 ·obtain⟨A,d⟩:=r9.1 q
  have l:=wT d;have p:A.length<=m:=by have:=Nt d;rw[ch]at this;simpa using this
  rw[d]at a;simp only at a;have r:(bO A).length<=A.length:=atO _ _;rw[l,fo A _ rfl,U6 (bO A) _ rfl,fo (bO A) _ rfl];refine ag (by simp only[F,ah,aa,aB,aT,bw,bo,h_,bF];omega) (ay (λb=>?_) λb=>?_)
  ·have b:gc (bO A)=η:=by have c:(!gc (bO A))=ε:=b;simpa using c
   rw[bi (by rw[b];simp)]at a;exact Φ (g (by rw[bg,<-a];rfl))
  ·have b:gc (bO A)=ε:=by have c:(!gc (bO A))=η:=b;simpa using c
   rw[aP b]at a;have i:(bO A).length<=12:=by have:=b;rw[gc,aM]at this;exact aL this.1
   have eT:bv (V f m)=lw (bO A):=by rw[bv,<-a];rfl
   have:=k (by rw[bg,<-a];rfl) _ eT;rw[an']at this;refine ag (by simp only[F,ah,aa,aB,aT,bw,bo];omega) ?_;simp only[ZM,cY];exact Φ this
 ·have d:runT eG [] (V f m)=ζ:=by
   cases h:runT eG [] (V f m)with
   |none=>rfl
   |some A=>rw[h]at q;cases q
  rw[d]at a;exact Φ (g (by rw[bg,<-a];rfl))
def Yt(m:O)(f:ω)(t:ae)(b:m<=2^38)(a:n8 (V f m)):∀c,(HX).body=γ c->eK θ 1 (L2 m f t (runT eG [] (V f m)).isSome (iQ f m).length (Y (iQ f m))) c:=cz (by kernel_rfl) (apc m f t b a)
def V9:au θ 124 (am bP Iy):=by
 refine bY Ts func124 rfl λi p b d=>?_
 unfold Iy at b;split at b
 ·rename_i m g
  cases b;simp only[F]at d;obtain⟨e,k,l,f,_⟩:=d;have h:=aL k;have a:=MA l;refine⟨[.row η m 9 (J (ξ g)) 112],_,100,.cons (Ξ.row λj c=>aN e j c) .nil,Yt m (ξ g) 112 h a,Yu m (ξ g) 112 h a _ (λ_ T n=>?_) λo=>by rw[o]at f;cases f⟩;subst n;exact⟨_,rfl,rfl,.cons (Ξ.row λj c=>(aN e j c).symm) (ab.refl _)⟩
 ·cases b
def V8:au θ 124 (am bP Iw):=by
 refine bY Ts func124 rfl λi o b d=>?_
 unfold Iw at b;split at b
 ·rename_i m g
  cases b;simp only[F]at d;obtain⟨e,k,l,f,_⟩:=d;have h:=aL k;have a:=MA l;refine⟨[.row η m 9 (J (ξ g)) 112],_,100,.cons (Ξ.row λj c=>aN e j c) .nil,Yt m (ξ g) 112 h a,Yu m (ξ g) 112 h a _ (λn=>by rw[n]at f;cases f) λ_=>?_⟩;exact⟨_,rfl,rfl,.cons (Ξ.row λj c=>(aN e j c).symm) .nil⟩
 ·cases b
def Sk(a:(O->Z)->O->Z):E τ->χ (τ×E κ)
 |[.agg ⟨[.int .i64 b,.int .i64 c,.int .i64 d,.int .i64 e,.int .i64 f,.int .i64 g,.int .i64 h,.int .i64 i]⟩]=>γ (dn (a (v8 b c d e f g h i)),[])
 |_=>ζ
def Bc(a:(O->Z)->O->Z):aE:=ext g0 231 (aS (Sk a))
abbrev fP(a:aQ):E AV:=[.v (ι (a 0)),.v (ι (a 1)),.v (ι (a 2)),.v (ι (a 3)),.v (ι (a 4)),.v (ι (a 5)),.v (ι (a 6)),.v (ι (a 7))]
abbrev BX:Ex->E O:=cx [1,2,4,5] [2,4] [4]
abbrev uZ(a:aQ):E AB:=[.cells (fP a) 75,.cells (fP λ_=>0) 75]
abbrev C4(n:Z)(i:O):E AV:=[.v (ι n),.ptr 0 0 0 0,.ptr 1 0 0 0,.v (ι i)]
def ann(b:(O->Z)->O->Z)(a:aQ)(n:Z)(i:O):let c:=AB.cells [vI 0,vI 0,vI 0,vI 0,vI 0,vI 0,vI 0,vI 0] 75;a0 θ (Bc b) 100 K (a4 0 PC) (aw 0 14 ((BX .normal).zip (C4 n i))) (uZ a) (cJ 14 BX 0)
 =bif ο ((↑i:Z)<n)then ao.out .normal [vI n,AV.ptr 0 0 0 0,AV.ptr 1 0 0 0,vI (aj .i64 ((↑i:Z)+(1:Z)))] [AB.cells [vI (b (w8 a) 0),vI (b (w8 a) 1),vI (b (w8 a) 2),vI (b (w8 a) 3),vI (b (w8 a) 4),vI (b (w8 a) 5),vI (b (w8 a) 6),vI (b (w8 a) 7)] 75,c]else ao.out (Ex.exit 0) [AV.ptr 0 0 0 0,AV.ptr 1 0 0 0] [AB.cells [vI (a 0),vI (a 1),vI (a 2),vI (a 3),vI (a 4),vI (a 5),vI (a 6),vI (a 7)] 75,c]:=by intros;kernel_rfl
noncomputable abbrev L4(a:aQ)(n:Z)(b:aQ):O->χ Sum:=bJ 0 (bD 14 (BX .normal) 0 (C4 n 0) (uZ a) (λc=>c .normal (aw 0 14 [(2,.ptr 0 0 0 0),(4,.ptr 1 0 0 0)]) (uZ b)))
def ar6(c:(O->Z)->O->Z)(a:aQ)(n:Z)(b:aQ):ad θ (Bc c) (L4 a n b) 100 PC [.v (dn a),.v (ι n)] [] (af 0)=Ω [cw ([vI n,AV.ptr 0 0 0 0,AV.ptr 1 0 0 0,vI 0]=C4 n 0/\ab [AB.cells [vI (a 0),vI (a 1),vI (a 2),vI (a 3),vI (a 4),vI (a 5),vI (a 6),vI (a 7)] 75,AB.cells [vI 0,vI 0,vI 0,vI 0,vI 0,vI 0,vI 0,vI 0] 75] (uZ a))] (rO [AV.agg [vI (b 0),vI (b 1),vI (b 2),vI (b 3),vI (b 4),vI (b 5),vI (b 6),vI (b 7)]] []):=by kernel_rfl
def aqO(b:(O->Z)->κ)(a:aQ):ad θ (ext g0 106 (aS (m2 b))) K 100 f104 [.v (dn a)] [] (af 0)=bif !b (w8 a)then rO [AV.Ψ [AV.agg [vI 0,vI 0,vI 0,vI 0,vI 0,vI 0,vI 0,vI 0],vB η]] []else rO [AV.Ψ [AV.agg [vI (a 0),vI (a 1),vI (a 2),vI (a 3),vI (a 4),vI (a 5),vI (a 6),vI (a 7)],vB ε]] []:=by kernel_rfl
def ae6:Sk fK=Fg:=by
 funext l
 rfl
def Tn:aK θ (Bc fK):=by unfold Bc;rw[ae6];exact az bt VU
def ape(a:aQ)(n:Z)(f:n<=2^40):cp θ 0 (.block 0 (.loop (a4 0 PC))) (bD 14 (BX .normal) 0 (C4 n 0) (uZ a) (λb=>b .normal (aw 0 14 [(2,.ptr 0 0 0 0),(4,.ptr 1 0 0 0)]) (uZ (gA a n.toNat)))):=by
 refine dQ Tn (n:=100) (m:=0) (lv:=BX) (λi=>C4 n i) (λi=>uZ (gA a i)) (λ_=>True) n.toNat (λ_=>K) (du rfl rfl rfl) (aR _) trivial λb Q d i h e=>⟨cT _ _ _,?_⟩
 rw[ann];refine ay (λc=>?_) λc=>?_
 ·have c:=aL c
  rw[bR (x:=(i:Z)+1) (by omega)];exact Φ ⟨i+1,⟨rfl,by omega,trivial⟩,rfl,ab.refl _⟩
 ·have c:=cE c
  have:i=n.toNat:=by omega
  subst this;refine Φ ⟨_,ab.refl _,?_⟩;rw[aP rfl];exact d
def IA:E SA->χ FR
 |[.v (.agg ⟨[.int .i64 a,.int .i64 b,.int .i64 c,.int .i64 d,.int .i64 e,.int .i64 f,.int .i64 g,.int .i64 h]⟩),.v (.int .i64 n)]=>γ {val:=.agg (fP (gA (v8 a b c d e f g h) n.toNat)),ap:=[ο (n<=2^40)]}
 |_=>ζ
def Wc:au θ 164 (am [.val,.val] IA):=by
 refine bY Tn func164 rfl λk m i j=>?_
 unfold IA at i;split at i
 ·rename_i a b c d e f g h n
  cases i;simp only[F]at j;have l:=aL j.1;refine⟨[],L4 (v8 a b c d e f g h) n (gA (v8 a b c d e f g h) n.toNat),100,.nil,cz (by kernel_rfl) (ape (v8 a b c d e f g h) n l),?_⟩;show aC (ad θ (Bc fK) (L4 (v8 a b c d e f g h) n (gA (v8 a b c d e f g h) n.toNat)) 100 PC [.v (dn (v8 a b c d e f g h)),.v (ι n)] [] (af 0)) _
  rw[ar6];exact ag (by rw[F];exact⟨cg ⟨rfl,ab.refl _⟩,rfl⟩) (Φ ⟨_,rfl,rfl,.nil⟩)
 ·cases i
def sK(a:aQ):O->Z:=bif bz (bC a)then a else λ_=>0
def Iu:E SA->χ FR
 |[.v (.agg ⟨[.int .i64 a,.int .i64 b,.int .i64 c,.int .i64 d,.int .i64 e,.int .i64 f,.int .i64 g,.int .i64 h]⟩)]=>γ {val:=.Ψ [.agg (fP (sK (v8 a b c d e f g h))),.v (.bool (bz (bC (v8 a b c d e f g h))))]}
 |_=>ζ
def akA:au θ 104 (am [.val] Iu):=by
 have k:aK θ (ext g0 106 (aS (m2 λv=>bz (bC v)))):=by rw[pW];exact az bt Ce
 refine bY k func104 rfl λl m i n=>?_
 unfold Iu at i;split at i
 ·rename_i a b c d e f g h
  cases i;refine⟨[],K,100,.nil,dq _,?_⟩;show aC (ad θ (ext g0 106 (aS (m2 λv=>bz (bC v)))) K 100 f104 [.v (dn (v8 a b c d e f g h))] [] (af 0)) _
  rw[aqO];refine ay (λq=>?_) λq=>?_
  ·have q:bz (bC (v8 a b c d e f g h))=η:=by have j:(!bz (bC (v8 a b c d e f g h)))=ε:=q;simpa using j
   refine Φ ⟨_,rfl,?_,.nil⟩;rw[sK,q];rfl
  ·have q:bz (bC (v8 a b c d e f g h))=ε:=by have j:(!bz (bC (v8 a b c d e f g h)))=η:=q;simpa using j
   refine Φ ⟨_,rfl,?_,.nil⟩;rw[sK,q];rfl
 ·cases i
def W7(t m:O):Z:=bif ai m t then 1 else 0
def anD(n:Z):ad θ g0 K 100 f204 [.v (ι n)] [] ed=Ω [ο (0<=n),ο (n<24),ο (n.toNat<24)] (.out .ret [.agg (fP (kG (W7 n.toNat) 24 16))] []):=by kernel_rfl
def Ku:E τ->χ (τ×E κ)
 |[.int .i64 n]=>γ (dn (b8 n.toNat),[ο (0<=n),ο (n<=(23:O))])
 |_=>ζ
def anE:∀t,t<24->∀k,k<8->kG (W7 t) 24 16 k=b8 t k:=by decide+kernel
def ak3:au θ 204 (aS Ku):=by
 refine en (n:=100) bt func204 rfl λh x i a d=>?_
 unfold Ku at a;split at a
 ·rename_i n
  simp only[ar,cG]at a;obtain⟨rfl,rfl⟩:=a;obtain⟨b,c⟩:=Cd d;have b:=aL b;have c:=aL c;show Good (ad θ g0 K 100 f204 [.v (ι n)] [] ed) _
  have e:ο (0<=n)=ε:=bA b;have f:ο (n<24)=ε:=bA (by omega);have g:ο (n.toNat<24)=ε:=bA (by omega);rw[anD,e,f,g,<-xd (anE n.toNat (by omega))];exact one rfl
 ·cases a
def n7(a:aQ):κ:=pn a (-9223372036854775808) 9223372036854775807
def F4(md:Z->Z)(rt:Z->O->Z)(mul:(O->Z)->(O->Z)->O->Z):aE:=ext (ext (ext g0 205 (aS (λ|[.int .i64 n]=>γ (ι (md n),[aD n (-9223372036854775808) 9223372036854775807])|_=>ζ))) 204 (aS (λ|[.int .i64 n]=>γ (dn (rt n),[ο (0<=n),ο (n<=(23:O))])|_=>ζ))) 200 (aS (q2 mul))
def ar7(md:Z->Z)(rt:Z->O->Z)(mul:(O->Z)->(O->Z)->O->Z)(a:aQ)(n:Z):let b:=(w8 (rt (md n)));ad θ (F4 md rt mul) K 100 f131 [.v (dn a),.v (ι n)] [] (af 0)
 =Ω [aD n (-9223372036854775808:Z) (9223372036854775807:Z),ο ((0:Z)<=md n),ο (md n<=(23:Z))] (rO [AV.agg [vI (mul (w8 a) b 0),vI (mul (w8 a) b 1),vI (mul (w8 a) b 2),vI (mul (w8 a) b 3),vI (mul (w8 a) b 4),vI (mul (w8 a) b 5),vI (mul (w8 a) b 6),vI (mul (w8 a) b 7)]] []):=by intros;kernel_rfl
def agm:aK θ (F4 (λn=>n%24) (λn=>b8 n.toNat) ep):=by
 have a:(λ|[.int .i64 n]=>γ (ι (n%24),[aD n (-9223372036854775808) 9223372036854775807])|_=>ζ)=Fo:=by funext l;rfl
 have b:(λ|[.int .i64 n]=>γ (dn (b8 n.toNat),[ο (0<=n),ο (n<=(23:O))])|_=>ζ)=Ku:=by funext l;rfl
 have c:q2 ep=AP:=by funext l;rfl
 unfold F4;rw[a,b,c];exact az (az (az bt Wb) ak3) MR
def Em(i:(O->Z)->Z->O->Z):E SA->χ FR
 |[.v (.agg ⟨[.int .i64 a,.int .i64 b,.int .i64 c,.int .i64 d,.int .i64 e,.int .i64 f,.int .i64 g,.int .i64 h]⟩),.v (.int .i64 n)]=>γ {val:=.agg (fP (i (v8 a b c d e f g h) n)),ap:=[n7 (v8 a b c d e f g h),aD n (-9223372036854775808) 9223372036854775807]}
 |_=>ζ
abbrev zh:(O->Z)->Z->O->Z:=λa n=>gA a (n%24).toNat
def V':au θ 131 (am [.val,.val] (Em zh)):=by
 refine bY agm func131 rfl λq w b f=>?_
 unfold Em at b;split at b
 ·rename_i g h i j l m o p n
  cases b;simp only[F]at f;obtain⟨r,s,_⟩:=f;generalize t:v8 g h i j l m o p=a at*;have c:=vG.1 r;refine⟨[],K,100,.nil,dq _,?_⟩;have d:hZ 0 [Md.val,Md.val] [SA.v (.agg ⟨[.int .i64 g,.int .i64 h,.int .i64 i,.int .i64 j,.int .i64 l,.int .i64 m,.int .i64 o,.int .i64 p]⟩),SA.v (ι n)]=[.v (dn a),.v (ι n)]:=by rw[<-t];rfl
  rw[d];show aC (ad θ (F4 (λn=>n%24) (λn=>b8 n.toNat) ep) K 100 f131 [.v (dn a),.v (ι n)] [] (af 0)) _
  rw[ar7];have e:∀k,k<8->ep (w8 a) (w8 (b8 (n%24).toNat)) k=gA a (n%24).toNat k:=by intro k u;have v:ep (w8 a) (w8 (b8 (n%24).toNat)) k=ep a (b8 (n%24).toNat) k:=rfl;rw[v,Vn c _ k u]
  simp only[e 0 (by omega),e 1 (by omega),e 2 (by omega),e 3 (by omega),e 4 (by omega),e 5 (by omega),e 6 (by omega),e 7 (by omega)];exact ag (by simp only[F,ah,aa,aB];exact⟨s,by omega,by omega⟩) (Φ ⟨_,rfl,rfl,.nil⟩)
 ·cases b
def E9(a:(O->Z)->O->Z):E τ->χ (τ×E κ)
 |[.agg ⟨[.int .i64 b,.int .i64 c,.int .i64 d,.int .i64 e,.int .i64 f,.int .i64 g,.int .i64 h,.int .i64 i]⟩]=>γ (dn (a (v8 b c d e f g h i)),[])
 |_=>ζ
def sU(a:(O->Z)->O->Z)(b:(O->Z)->Z->O->Z):aE:=ext (ext g0 138 (aS (E9 a))) 131 (am [.val,.val] (Em b))
abbrev fG:Ex->E O:=cx [1,6,15,16,17] [6] [4,5]
def QL(c:E Wh->E Wh)(a b:E Wh->κ):E SA->χ FR
 |[.row m g]=>γ {val:=js (c (V (ξ g) m)),new:=fR (c (V (ξ g) m)),ap:=[ak m g,ο (m<=2^38),b (V (ξ g) m),a (V (ξ g) m)]}
 |_=>ζ
def QK(a b:E Wh->κ):E SA->χ FR
 |[.row m g]=>γ {val:=eQ,ap:=[ak m g,ο (m<=2^38),b (V (ξ g) m),!a (V (ξ g) m)]}
 |_=>ζ
def kA(a:E Wh->κ)(d:E Wh->E Wh)(b c:E Wh->κ):aE:=ext (ext g0 123 (am bP (pM a))) 124 (am bP (QL d b c))
def fx(a:E Wh->κ)(b c:E Wh->κ):aE:=ext (ext g0 123 (am bP (pM a))) 124 (am bP (QK b c))
abbrev uN:AV:=.fn 208 []
abbrev rn(m:O)(f:ω)(t:ae)(n:O)(h:ω):E AB:=[.row η m 9 (J f) t,.row ε n 9 (J h) 112]
abbrev y0(m n i:O):E AV:=[uN,.own 1 n,.sl 0 9 0 0 m ζ,.v (ι m),.v (ι i)]
def amI(d:(O->Z)->O->Z)(e:(O->Z)->Z->O->Z)(m:O)(f:ω)(t:ae)(n:O)(h:ω)(i:O):let b:=(↑i:Z);let c:=AB.row η m 9 (J f) t;let a:=(0+a5 b);a0 θ (sU d e) 100 K (a4 0 dd) (aw 0 32 ((fG .normal).zip (y0 m n i))) (rn m f t n h) (cJ 32 fG 1)
 =bif ο (b<(m:Z))then Ω [ο (b<(m:Z)),ο (0+a5 b<m),Θ n n,Θ (n+1) 549755813888] (ao.out .normal [AV.fn (208:bq) [],AV.own 1 (n+1),AV.sl 0 9 0 0 m ζ,vI (m:Z),vI (aj .i64 (b+(1:Z)))] [c,AB.row ε (n+1) 9 (λq=>[ι (bif Δ q n then h q 0 else f a 0),ι (bif Δ q n then h q 1 else f a 1),ι (bif Δ q n then h q 2 else f a 2),ι (bif Δ q n then h q 3 else f a 3),ι (bif Δ q n then h q 4 else f a 4),ι (bif Δ q n then h q 5 else f a 5),ι (bif Δ q n then h q 6 else f a 6),ι (bif Δ q n then h q 7 else f a 7),ι (bif Δ q n then h q 8 else f a 8)]) 112])else ao.out (Ex.exit 0) [AV.own 1 n] [c,AB.row ε n 9 (J h) 112]:=by intros;kernel_rfl
noncomputable abbrev xU(m:O)(f:ω)(t:ae)(n:O)(h:ω):O->χ Sum:=bJ 0 (bD 32 (fG .normal) 1 (y0 m 0 0) (rn m f t 0 (Y [])) (λa=>a .normal (aw 0 32 [(6,.own 1 n)]) (rn m f t n h)))
def asf(a:E Wh->κ)(e:E Wh->E Wh)(b c:E Wh->κ)(m:O)(f:ω)(t:ae)(n:O)(h:ω):let d:=(V (ξ (J h)) n);let g:=AB.row η m 9 (J f) t;let i:=(b_ (e d));ad θ (kA a e b c) (xU m f t n h) 100 dd [.sl 0 9 0 0 m ζ,uN] [.row η m 9 (J f) t] (af 1)
 =Ω [Θ (0+m) m,ak m λq=>J f (0+q),ο (m<=549755813888)] (bif !a (V (ξ λq=>J f (0+q)) m)then rO [AV.Ψ [AV.v (dk ζ 0 0),vB η]] [g]else Ω [ο ((m:Z)<=(1099511627776:Z)),cw ([AV.fn (208:bq) [],AV.own 1 0,AV.sl 0 9 0 0 m ζ,vI (m:Z),vI 0]=y0 m 0 0/\ab [g,AB.row ε 0 9 (λ_=>[ι 0,ι 0,ι 0,ι 0,ι 0,ι 0,ι 0,ι 0,ι 0]) 112] (rn m f t 0 (Y []))),Θ n n,ak n (J h),ο (n<=274877906944),c d,b d] (rO [AV.Ψ [AV.sl 1 9 0 0 i (γ i),vB ε]] [g,AB.row ε i 9 (J (Y (e d))) 112])):=by intros;kernel_rfl
def arl(a:E Wh->κ)(b c:E Wh->κ)(m:O)(f:ω)(t:ae)(n:O)(h:ω):let e:=[AV.Ψ [AV.v (dk ζ 0 0),vB η]];let d:=AB.row η m 9 (J f) t;let g:=(V (ξ (J h)) n);ad θ (fx a b c) (xU m f t n h) 100 dd [.sl 0 9 0 0 m ζ,uN] [.row η m 9 (J f) t] (af 1)
 =Ω [Θ (0+m) m,ak m λq=>J f (0+q),ο (m<=549755813888)] (bif !a (V (ξ λq=>J f (0+q)) m)then rO e [d]else Ω [ο ((m:Z)<=(1099511627776:Z)),cw ([AV.fn (208:bq) [],AV.own 1 0,AV.sl 0 9 0 0 m ζ,vI (m:Z),vI 0]=y0 m 0 0/\ab [d,AB.row ε 0 9 (λ_=>[ι 0,ι 0,ι 0,ι 0,ι 0,ι 0,ι 0,ι 0,ι 0]) 112] (rn m f t 0 (Y []))),Θ n n,ak n (J h),ο (n<=274877906944),c g,!b g] (rO e [d])):=by intros;kernel_rfl
abbrev uO:AV:=.fn 130 [.ptr 1 0 0 0]
abbrev ro(m:O)(f:ω)(t:ae)(x:Z)(n:O)(h:ω):E AB:=[.row η m 9 (J f) t,.cells [.v (ι x)] 3,.row ε n 9 (J h) 112]
abbrev y4(m n i:O):E AV:=[uO,.own 2 n,.sl 0 9 0 0 m ζ,.v (ι m),.v (ι i)]
def amJ(g:(O->Z)->O->Z)(a:(O->Z)->Z->O->Z)(m:O)(f:ω)(t:ae)(x:Z)(n:O)(h:ω)(i:O):let d:=(↑i:Z);let e:=AB.row η m 9 (J f) t;let b:=(0+a5 d);let c:=(v8 (f b 1) (f b 2) (f b 3) (f b 4) (f b 5) (f b 6) (f b 7) (f b 8));a0 θ (sU g a) 100 K (a4 0 dd) (aw 0 32 ((fG .normal).zip (y4 m n i))) (ro m f t x n h) (cJ 32 fG 2)
 =bif ο (d<(m:Z))then Ω [ο (d<(m:Z)),ο (0+a5 d<m),n7 c,aD x (-9223372036854775808:Z) (9223372036854775807:Z),Θ n n,Θ (n+1) 549755813888] (ao.out .normal [AV.fn (130:bq) [AV.ptr 1 0 0 0],AV.own 2 (n+1),AV.sl 0 9 0 0 m ζ,vI (m:Z),vI (aj .i64 (d+(1:Z)))] [e,AB.cells [vI x] 3,AB.row ε (n+1) 9 (λq=>[ι (bif Δ q n then h q 0 else f b 0),ι (bif Δ q n then h q 1 else a c x 0),ι (bif Δ q n then h q 2 else a c x 1),ι (bif Δ q n then h q 3 else a c x 2),ι (bif Δ q n then h q 4 else a c x 3),ι (bif Δ q n then h q 5 else a c x 4),ι (bif Δ q n then h q 6 else a c x 5),ι (bif Δ q n then h q 7 else a c x 6),ι (bif Δ q n then h q 8 else a c x 7)]) 112])else ao.out (Ex.exit 0) [AV.own 2 n] [e,AB.cells [vI x] 3,AB.row ε n 9 (J h) 112]:=by intros;kernel_rfl
noncomputable abbrev xV(m:O)(f:ω)(t:ae)(x:Z)(n:O)(h:ω):O->χ Sum:=bJ 0 (bD 32 (fG .normal) 2 (y4 m 0 0) (ro m f t x 0 (Y [])) (λa=>a .normal (aw 0 32 [(6,.own 2 n)]) (ro m f t x n h)))
def asg(a:E Wh->κ)(e:E Wh->E Wh)(b c:E Wh->κ)(m:O)(f:ω)(t:ae)(x:Z)(n:O)(h:ω):let d:=(V (ξ (J h)) n);let g:=AB.row η m 9 (J f) t;let i:=(b_ (e d));let j:=AB.cells [vI x] 3;ad θ (kA a e b c) (xV m f t x n h) 100 dd [.sl 0 9 0 0 m ζ,uO] [.row η m 9 (J f) t,.cells [.v (ι x)] 3] (af 2)
 =Ω [Θ (0+m) m,ak m λq=>J f (0+q),ο (m<=549755813888)] (bif !a (V (ξ λq=>J f (0+q)) m)then rO [AV.Ψ [AV.v (dk ζ 0 0),vB η]] [g,j]else Ω [ο ((m:Z)<=(1099511627776:Z)),cw ([AV.fn (130:bq) [AV.ptr 1 0 0 0],AV.own 2 0,AV.sl 0 9 0 0 m ζ,vI (m:Z),vI 0]=y4 m 0 0/\ab [g,j,AB.row ε 0 9 (λ_=>[ι 0,ι 0,ι 0,ι 0,ι 0,ι 0,ι 0,ι 0,ι 0]) 112] (ro m f t x 0 (Y []))),Θ n n,ak n (J h),ο (n<=274877906944),c d,b d] (rO [AV.Ψ [AV.sl 2 9 0 0 i (γ i),vB ε]] [g,j,AB.row ε i 9 (J (Y (e d))) 112])):=by intros;kernel_rfl
def arm(a:E Wh->κ)(b c:E Wh->κ)(m:O)(f:ω)(t:ae)(x:Z)(n:O)(h:ω):let g:=[AV.Ψ [AV.v (dk ζ 0 0),vB η]];let d:=AB.row η m 9 (J f) t;let e:=AB.cells [vI x] 3;let i:=(V (ξ (J h)) n);ad θ (fx a b c) (xV m f t x n h) 100 dd [.sl 0 9 0 0 m ζ,uO] [.row η m 9 (J f) t,.cells [.v (ι x)] 3] (af 2)
 =Ω [Θ (0+m) m,ak m λq=>J f (0+q),ο (m<=549755813888)] (bif !a (V (ξ λq=>J f (0+q)) m)then rO g [d,e]else Ω [ο ((m:Z)<=(1099511627776:Z)),cw ([AV.fn (130:bq) [AV.ptr 1 0 0 0],AV.own 2 0,AV.sl 0 9 0 0 m ζ,vI (m:Z),vI 0]=y4 m 0 0/\ab [d,e,AB.row ε 0 9 (λ_=>[ι 0,ι 0,ι 0,ι 0,ι 0,ι 0,ι 0,ι 0,ι 0]) 112] (ro m f t x 0 (Y []))),Θ n n,ak n (J h),ο (n<=274877906944),c i,!b i] (rO g [d,e])):=by intros;kernel_rfl
abbrev uL:AV:=.fn 133 [.ptr 1 0 0 0]
abbrev rk(m:O)(f:ω)(t:ae)(x:Z)(n:O)(h:ω):E AB:=[.row η m 9 (J f) t,.cells [.v (ι x)] 3,.row ε n 9 (J h) 112]
abbrev yY(m n i:O):E AV:=[uL,.own 2 n,.sl 0 9 0 0 m ζ,.v (ι m),.v (ι i)]
def amG(j:(O->Z)->O->Z)(b:(O->Z)->Z->O->Z)(m:O)(f:ω)(t:ae)(x:Z)(n:O)(h:ω)(i:O):let e:=(↑i:Z);let g:=AB.row η m 9 (J f) t;let a:=(0+a5 e);let c:=(v8 (f a 1) (f a 2) (f a 3) (f a 4) (f a 5) (f a 6) (f a 7) (f a 8));let d:=(aj .i64 (x*f a 0));a0 θ (sU j b) 100 K (a4 0 dd) (aw 0 32 ((fG .normal).zip (yY m n i))) (rk m f t x n h) (cJ 32 fG 2)
 =bif ο (e<(m:Z))then Ω [ο (e<(m:Z)),ο (0+a5 e<m),n7 c,aD d (-9223372036854775808:Z) (9223372036854775807:Z),Θ n n,Θ (n+1) 549755813888] (ao.out .normal [AV.fn (133:bq) [AV.ptr 1 0 0 0],AV.own 2 (n+1),AV.sl 0 9 0 0 m ζ,vI (m:Z),vI (aj .i64 (e+(1:Z)))] [g,AB.cells [vI x] 3,AB.row ε (n+1) 9 (λq=>[ι (bif Δ q n then h q 0 else f a 0),ι (bif Δ q n then h q 1 else b c d 0),ι (bif Δ q n then h q 2 else b c d 1),ι (bif Δ q n then h q 3 else b c d 2),ι (bif Δ q n then h q 4 else b c d 3),ι (bif Δ q n then h q 5 else b c d 4),ι (bif Δ q n then h q 6 else b c d 5),ι (bif Δ q n then h q 7 else b c d 6),ι (bif Δ q n then h q 8 else b c d 7)]) 112])else ao.out (Ex.exit 0) [AV.own 2 n] [g,AB.cells [vI x] 3,AB.row ε n 9 (J h) 112]:=by intros;kernel_rfl
noncomputable abbrev xS(m:O)(f:ω)(t:ae)(x:Z)(n:O)(h:ω):O->χ Sum:=bJ 0 (bD 32 (fG .normal) 2 (yY m 0 0) (rk m f t x 0 (Y [])) (λa=>a .normal (aw 0 32 [(6,.own 2 n)]) (rk m f t x n h)))
def asd(a:E Wh->κ)(e:E Wh->E Wh)(b c:E Wh->κ)(m:O)(f:ω)(t:ae)(x:Z)(n:O)(h:ω):let d:=(V (ξ (J h)) n);let g:=AB.row η m 9 (J f) t;let i:=(b_ (e d));let j:=AB.cells [vI x] 3;ad θ (kA a e b c) (xS m f t x n h) 100 dd [.sl 0 9 0 0 m ζ,uL] [.row η m 9 (J f) t,.cells [.v (ι x)] 3] (af 2)
 =Ω [Θ (0+m) m,ak m λq=>J f (0+q),ο (m<=549755813888)] (bif !a (V (ξ λq=>J f (0+q)) m)then rO [AV.Ψ [AV.v (dk ζ 0 0),vB η]] [g,j]else Ω [ο ((m:Z)<=(1099511627776:Z)),cw ([AV.fn (133:bq) [AV.ptr 1 0 0 0],AV.own 2 0,AV.sl 0 9 0 0 m ζ,vI (m:Z),vI 0]=yY m 0 0/\ab [g,j,AB.row ε 0 9 (λ_=>[ι 0,ι 0,ι 0,ι 0,ι 0,ι 0,ι 0,ι 0,ι 0]) 112] (rk m f t x 0 (Y []))),Θ n n,ak n (J h),ο (n<=274877906944),c d,b d] (rO [AV.Ψ [AV.sl 2 9 0 0 i (γ i),vB ε]] [g,j,AB.row ε i 9 (J (Y (e d))) 112])):=by intros;kernel_rfl
def arj(a:E Wh->κ)(b c:E Wh->κ)(m:O)(f:ω)(t:ae)(x:Z)(n:O)(h:ω):let g:=[AV.Ψ [AV.v (dk ζ 0 0),vB η]];let d:=AB.row η m 9 (J f) t;let e:=AB.cells [vI x] 3;let i:=(V (ξ (J h)) n);ad θ (fx a b c) (xS m f t x n h) 100 dd [.sl 0 9 0 0 m ζ,uL] [.row η m 9 (J f) t,.cells [.v (ι x)] 3] (af 2)
 =Ω [Θ (0+m) m,ak m λq=>J f (0+q),ο (m<=549755813888)] (bif !a (V (ξ λq=>J f (0+q)) m)then rO g [d,e]else Ω [ο ((m:Z)<=(1099511627776:Z)),cw ([AV.fn (133:bq) [AV.ptr 1 0 0 0],AV.own 2 0,AV.sl 0 9 0 0 m ζ,vI (m:Z),vI 0]=yY m 0 0/\ab [d,e,AB.row ε 0 9 (λ_=>[ι 0,ι 0,ι 0,ι 0,ι 0,ι 0,ι 0,ι 0,ι 0]) 112] (rk m f t x 0 (Y []))),Θ n n,ak n (J h),ο (n<=274877906944),c i,!b i] (rO g [d,e])):=by intros;kernel_rfl
abbrev uI:AV:=.fn 136 []
abbrev rg(m:O)(f:ω)(t:ae)(n:O)(h:ω):E AB:=[.row η m 9 (J f) t,.row ε n 9 (J h) 112]
abbrev yW(m n i:O):E AV:=[uI,.own 1 n,.sl 0 9 0 0 m ζ,.v (ι m),.v (ι i)]
def amE(d:(O->Z)->O->Z)(e:(O->Z)->Z->O->Z)(m:O)(f:ω)(t:ae)(n:O)(h:ω)(i:O):let b:=(↑i:Z);let c:=AB.row η m 9 (J f) t;let a:=(0+a5 b);a0 θ (sU d e) 100 K (a4 0 dd) (aw 0 32 ((fG .normal).zip (yW m n i))) (rg m f t n h) (cJ 32 fG 1)
 =bif ο (b<(m:Z))then Ω [ο (b<(m:Z)),ο (0+a5 b<m),Θ n n,Θ (n+1) 549755813888] (ao.out .normal [AV.fn (136:bq) [],AV.own 1 (n+1),AV.sl 0 9 0 0 m ζ,vI (m:Z),vI (aj .i64 (b+(1:Z)))] [c,AB.row ε (n+1) 9 (λq=>[ι (bif Δ q n then h q 0 else aj .i64 ((0:Z) -f a 0)),ι (bif Δ q n then h q 1 else f a 1),ι (bif Δ q n then h q 2 else f a 2),ι (bif Δ q n then h q 3 else f a 3),ι (bif Δ q n then h q 4 else f a 4),ι (bif Δ q n then h q 5 else f a 5),ι (bif Δ q n then h q 6 else f a 6),ι (bif Δ q n then h q 7 else f a 7),ι (bif Δ q n then h q 8 else f a 8)]) 112])else ao.out (Ex.exit 0) [AV.own 1 n] [c,AB.row ε n 9 (J h) 112]:=by intros;kernel_rfl
noncomputable abbrev xQ(m:O)(f:ω)(t:ae)(n:O)(h:ω):O->χ Sum:=bJ 0 (bD 32 (fG .normal) 1 (yW m 0 0) (rg m f t 0 (Y [])) (λa=>a .normal (aw 0 32 [(6,.own 1 n)]) (rg m f t n h)))
def asb(a:E Wh->κ)(e:E Wh->E Wh)(b c:E Wh->κ)(m:O)(f:ω)(t:ae)(n:O)(h:ω):let d:=(V (ξ (J h)) n);let g:=AB.row η m 9 (J f) t;let i:=(b_ (e d));ad θ (kA a e b c) (xQ m f t n h) 100 dd [.sl 0 9 0 0 m ζ,uI] [.row η m 9 (J f) t] (af 1)
 =Ω [Θ (0+m) m,ak m λq=>J f (0+q),ο (m<=549755813888)] (bif !a (V (ξ λq=>J f (0+q)) m)then rO [AV.Ψ [AV.v (dk ζ 0 0),vB η]] [g]else Ω [ο ((m:Z)<=(1099511627776:Z)),cw ([AV.fn (136:bq) [],AV.own 1 0,AV.sl 0 9 0 0 m ζ,vI (m:Z),vI 0]=yW m 0 0/\ab [g,AB.row ε 0 9 (λ_=>[ι 0,ι 0,ι 0,ι 0,ι 0,ι 0,ι 0,ι 0,ι 0]) 112] (rg m f t 0 (Y []))),Θ n n,ak n (J h),ο (n<=274877906944),c d,b d] (rO [AV.Ψ [AV.sl 1 9 0 0 i (γ i),vB ε]] [g,AB.row ε i 9 (J (Y (e d))) 112])):=by intros;kernel_rfl
def arh(a:E Wh->κ)(b c:E Wh->κ)(m:O)(f:ω)(t:ae)(n:O)(h:ω):let e:=[AV.Ψ [AV.v (dk ζ 0 0),vB η]];let d:=AB.row η m 9 (J f) t;let g:=(V (ξ (J h)) n);ad θ (fx a b c) (xQ m f t n h) 100 dd [.sl 0 9 0 0 m ζ,uI] [.row η m 9 (J f) t] (af 1)
 =Ω [Θ (0+m) m,ak m λq=>J f (0+q),ο (m<=549755813888)] (bif !a (V (ξ λq=>J f (0+q)) m)then rO e [d]else Ω [ο ((m:Z)<=(1099511627776:Z)),cw ([AV.fn (136:bq) [],AV.own 1 0,AV.sl 0 9 0 0 m ζ,vI (m:Z),vI 0]=yW m 0 0/\ab [d,AB.row ε 0 9 (λ_=>[ι 0,ι 0,ι 0,ι 0,ι 0,ι 0,ι 0,ι 0,ι 0]) 112] (rg m f t 0 (Y []))),Θ n n,ak n (J h),ο (n<=274877906944),c g,!b g] (rO e [d])):=by intros;kernel_rfl
abbrev uM:AV:=.fn 137 []
abbrev rm(m:O)(f:ω)(t:ae)(n:O)(h:ω):E AB:=[.row η m 9 (J f) t,.row ε n 9 (J h) 112]
abbrev yZ(m n i:O):E AV:=[uM,.own 1 n,.sl 0 9 0 0 m ζ,.v (ι m),.v (ι i)]
def amH(a:(O->Z)->O->Z)(g:(O->Z)->Z->O->Z)(m:O)(f:ω)(t:ae)(n:O)(h:ω)(i:O):let d:=(↑i:Z);let e:=AB.row η m 9 (J f) t;let b:=(0+a5 d);let c:=(v8 (f b 1) (f b 2) (f b 3) (f b 4) (f b 5) (f b 6) (f b 7) (f b 8));a0 θ (sU a g) 100 K (a4 0 dd) (aw 0 32 ((fG .normal).zip (yZ m n i))) (rm m f t n h) (cJ 32 fG 1)
 =bif ο (d<(m:Z))then Ω [ο (d<(m:Z)),ο (0+a5 d<m),Θ n n,Θ (n+1) 549755813888] (ao.out .normal [AV.fn (137:bq) [],AV.own 1 (n+1),AV.sl 0 9 0 0 m ζ,vI (m:Z),vI (aj .i64 (d+(1:Z)))] [e,AB.row ε (n+1) 9 (λq=>[ι (bif Δ q n then h q 0 else aj .i64 ((0:Z) -f b 0)),ι (bif Δ q n then h q 1 else a c 0),ι (bif Δ q n then h q 2 else a c 1),ι (bif Δ q n then h q 3 else a c 2),ι (bif Δ q n then h q 4 else a c 3),ι (bif Δ q n then h q 5 else a c 4),ι (bif Δ q n then h q 6 else a c 5),ι (bif Δ q n then h q 7 else a c 6),ι (bif Δ q n then h q 8 else a c 7)]) 112])else ao.out (Ex.exit 0) [AV.own 1 n] [e,AB.row ε n 9 (J h) 112]:=by intros;kernel_rfl
noncomputable abbrev xT(m:O)(f:ω)(t:ae)(n:O)(h:ω):O->χ Sum:=bJ 0 (bD 32 (fG .normal) 1 (yZ m 0 0) (rm m f t 0 (Y [])) (λa=>a .normal (aw 0 32 [(6,.own 1 n)]) (rm m f t n h)))
def ase(a:E Wh->κ)(e:E Wh->E Wh)(b c:E Wh->κ)(m:O)(f:ω)(t:ae)(n:O)(h:ω):let d:=(V (ξ (J h)) n);let g:=AB.row η m 9 (J f) t;let i:=(b_ (e d));ad θ (kA a e b c) (xT m f t n h) 100 dd [.sl 0 9 0 0 m ζ,uM] [.row η m 9 (J f) t] (af 1)
 =Ω [Θ (0+m) m,ak m λq=>J f (0+q),ο (m<=549755813888)] (bif !a (V (ξ λq=>J f (0+q)) m)then rO [AV.Ψ [AV.v (dk ζ 0 0),vB η]] [g]else Ω [ο ((m:Z)<=(1099511627776:Z)),cw ([AV.fn (137:bq) [],AV.own 1 0,AV.sl 0 9 0 0 m ζ,vI (m:Z),vI 0]=yZ m 0 0/\ab [g,AB.row ε 0 9 (λ_=>[ι 0,ι 0,ι 0,ι 0,ι 0,ι 0,ι 0,ι 0,ι 0]) 112] (rm m f t 0 (Y []))),Θ n n,ak n (J h),ο (n<=274877906944),c d,b d] (rO [AV.Ψ [AV.sl 1 9 0 0 i (γ i),vB ε]] [g,AB.row ε i 9 (J (Y (e d))) 112])):=by intros;kernel_rfl
def ark(a:E Wh->κ)(b c:E Wh->κ)(m:O)(f:ω)(t:ae)(n:O)(h:ω):let e:=[AV.Ψ [AV.v (dk ζ 0 0),vB η]];let d:=AB.row η m 9 (J f) t;let g:=(V (ξ (J h)) n);ad θ (fx a b c) (xT m f t n h) 100 dd [.sl 0 9 0 0 m ζ,uM] [.row η m 9 (J f) t] (af 1)
 =Ω [Θ (0+m) m,ak m λq=>J f (0+q),ο (m<=549755813888)] (bif !a (V (ξ λq=>J f (0+q)) m)then rO e [d]else Ω [ο ((m:Z)<=(1099511627776:Z)),cw ([AV.fn (137:bq) [],AV.own 1 0,AV.sl 0 9 0 0 m ζ,vI (m:Z),vI 0]=yZ m 0 0/\ab [d,AB.row ε 0 9 (λ_=>[ι 0,ι 0,ι 0,ι 0,ι 0,ι 0,ι 0,ι 0,ι 0]) 112] (rm m f t 0 (Y []))),Θ n n,ak n (J h),ο (n<=274877906944),c g,!b g] (rO e [d])):=by intros;kernel_rfl
def ae3:E9 jl=Fj:=by
 funext l
 rfl
def xA:aK θ (sU jl zh):=by unfold sU;rw[ae3];exact az (az bt V0) V'
def nT(L:E Wh)(w:Wh)(i:O)(a:L.length=i)(q:O)(b:q<i+1):[ι (bif Δ q i then Y L q 0 else fU w 0),ι (bif Δ q i then Y L q 1 else fU w 1),ι (bif Δ q i then Y L q 2 else fU w 2),ι (bif Δ q i then Y L q 3 else fU w 3),ι (bif Δ q i then Y L q 4 else fU w 4),ι (bif Δ q i then Y L q 5 else fU w 5),ι (bif Δ q i then Y L q 6 else fU w 6),ι (bif Δ q i then Y L q 7 else fU w 7),ι (bif Δ q i then Y L q 8 else fU w 8)]=J (Y (L++[w])) q:=by subst a;exact Xa L (fU w) q b
def yi{L:E Wh}(h:aG L=ε){w:Wh}(a:w∈L):(-1000<=w.s/\w.s<=1000)/\∀k,k<8-> -1000000<=w.r.f k/\w.r.f k<=1000000:=by rw[aG,aM]at h;have:=bX.1 h.2 w a;rw[aM]at this;exact⟨b9.1 this.1,vG.1 this.2⟩
def kd{L:E Wh}(h:aG L=ε):L.length<=12:=by rw[aG,aM]at h;exact aL h.1
def tJ{L:E Wh}(h:aG L=ε){w:Wh}(a:w∈L):mY w.r:=λk b=>by have:=(yi h a).2 k b;omega
def nq{L:E Wh}(h:aG L=ε){w:Wh}(a:w∈L):n7 w.r.f=ε:=vG.2 (tJ h a)
def Aq(a:aQ):∀k,k<8->(bC a).f k=a k:=lf rfl rfl rfl rfl rfl rfl rfl rfl
def EQ{a:O->Z}(h:∀k,k<8-> -9223372036854775808<=a k/\a k<=9223372036854775807):mY (bC a):=λk b=>by rw[Aq a k b];exact h k b
def aos{a:O->Z}(h:∀k,k<8-> -9223372036854775808<=a k/\a k<=9223372036854775807):∀k,k<8-> -9223372036854775808<=fK a k/\fK a k<=9223372036854775807:=
 lf (nr _) (h 0 (by omega)) (h 1 (by omega)) (h 2 (by omega)) (nr _) (h 4 (by omega)) (h 5 (by omega)) (h 6 (by omega))
def Ok{a:O->Z}(h:∀k,k<8-> -9223372036854775808<=a k/\a k<=9223372036854775807):∀(n k:O),k<8-> -9223372036854775808<=gA a n k/\gA a n k<=9223372036854775807
 |0=>h
 |n+1=>aos (Ok h n)
def aa5:QL bv bg dS=Iy:=by
 funext l
 rfl
def aa4:QK bg dS=Iw:=by
 funext l
 rfl
def sW:aK θ (kA aG bv bg dS):=by unfold kA;rw[so,aa5];exact az (az bt Ci) V9
def sV:aK θ (fx aG bg dS):=by unfold fx;rw[so,aa4];exact az (az bt Ci) V8
def bV(f:ω):(λq=>J f (0+q))=J f:=by
 funext q
 rw[bF]
def aqV(a:E Wh->κ)(b c:E Wh->κ)(m:O)(f:ω)(t:ae):ad θ (fx a b c) (bJ 0 ej) 100 dd [.sl 0 9 0 0 m ζ,uN] [.row η m 9 (J f) t] (af 1)=Ω [Θ (0+m) m,ak m λq=>J f (0+q),ο (m<=549755813888)] (bif !a (V (ξ λq=>J f (0+q)) m)then rO [AV.Ψ [AV.v (dk ζ 0 0),vB η]] [AB.row η m 9 (J f) t]else Ω [ο ((m:Z)<=(1099511627776:Z))] ao.err):=by kernel_rfl
def jZ(w:Wh):Wh:=w
abbrev ve:E Wh->E Wh:=λL=>L.map jZ
def Us{L:E Wh}(h:aG L=ε):n8 (L.map jZ):=by intro c a;obtain⟨w,b,rfl⟩:=fX.1 a;exact tJ h b
def XW(m:O)(f:ω)(t:ae)(j:m<=2^38)(d:∀w∈V f m,n7 w.r.f=ε):cp θ 1 (.block 0 (.loop (a4 0 dd))) (bD 32 (fG .normal) 1 (y0 m 0 0) (rn m f t 0 (Y [])) (λa=>a .normal (aw 0 32 [(6,.own 1 m)]) (rn m f t m (Y ((V f m).map jZ))))):=by
 refine dQ xA (n:=100) (m:=1) (lv:=fG) (λi=>y0 m i i) (λi=>rn m f t i (Y ((V f i).map jZ))) (λ_=>True) m (λ_=>K) (du rfl rfl rfl) (aR _) trivial λa Q e i l g=>⟨cT _ _ _,?_⟩
 rw[amI];refine ay (λb=>?_) λb=>?_
 ·have b:=aL b
  have c:i<m:=by omega
  rw[cY,bF,bR (x:=(i:Z)+1) (by omega)];refine ag (by simp only[F,ah,aa,aB,aT];omega) (Φ ⟨i+1,⟨rfl,c,trivial⟩,rfl,?_⟩);show ab _ (rn m f t (i+1) (Y ((V f (i+1)).map jZ)))
  rw[gw,iN];refine(.cons (Ξ.refl _) (.cons (Ξ.row λq h=>?_) .nil));exact nT _ (jZ (bm (f i))) i (by rw[cC,ch]) q h
 ·have b:=cE b
  have:i=m:=by omega
  subst this;refine Φ ⟨_,ab.refl _,?_⟩;rw[aP rfl];exact e
def Ee(b:E Wh->κ)(c:E Wh->E Wh)(d:E Wh->κ)(a:E Wh->E Wh):E AV->E AB->χ HR
 |[.sl 0 9 0 0 m ζ,.fn 208 []],[.row η n 9 g t]=>γ {val:=.Ψ [.sl 1 9 0 0 (c (a (V (ξ g) m))).length (γ (c (a (V (ξ g) m))).length),.v (.bool ε)],out:=[.row η n 9 g t],new:=fR (c (a (V (ξ g) m))),ap:=[ai n m,ak m g,ο (m<=2^38),b (V (ξ g) m)&&d (a (V (ξ g) m))]}
 |_,_=>ζ
def D_(a:E Wh->κ)(b:E Wh->κ)(c:E Wh->E Wh):E AV->E AB->χ HR
 |[.sl 0 9 0 0 m ζ,.fn 208 []],[.row η n 9 g t]=>γ {val:=eQ,out:=[.row η n 9 g t],ap:=[ai n m,ak m g,ο (m<=2^38),!(a (V (ξ g) m)&&b (c (V (ξ g) m)))]}
 |_,_=>ζ
def ajS:au θ 129 (da [ε] (Ee aG bv bg ve)):=by
 refine lV sW pE rfl λk H s b f=>?_
 unfold Ee at b;split at b
 ·rename_i m n g t
  cases b;simp only[F]at f;obtain⟨c,h,l,i,_⟩:=f;have c:=ci c;subst c;have o:=aL l;rw[aM]at i;obtain⟨d,p⟩:=i;have e:=Us d;have q:=XW n (ξ g) t o (λw r=>nq d r);refine⟨[.row η n 9 (J (ξ g)) t],xU n (ξ g) t n (Y ((V (ξ g) n).map jZ)),100,.cons (Ξ.row λj a=>aN h j a) .nil,cz (by kernel_rfl) q,?_⟩;show aC (ad θ (kA aG bv bg dS) (xU n (ξ g) t n (Y ((V (ξ g) n).map jZ))) 100 dd [.sl 0 9 0 0 n ζ,uN] [.row η n 9 (J (ξ g)) t] (af 1)) _
  rw[asf,bV,cb,fo ((V (ξ g) n).map jZ) n (by rw[cC,ch])];refine ag (by simp only[F,ah,aa,aB,aT,bw,bo];omega) (cL (by rw[d];rfl) (ag ?_ (Φ ⟨rfl,.cons (Ξ.row λj a=>(aN h j a).symm) (ab.refl _)⟩)));simp only[F,ah,aa,bw];exact⟨bA (by omega),cg ⟨rfl,(.cons (Ξ.refl _) (.cons (Ξ.row λj a=>aO a (cN _)) .nil))⟩,by simp,trivial,bA (by omega),cg e,p⟩
 ·cases b
def ajM:au θ 129 (da [ε] (D_ aG bg ve)):=by
 refine lV sV pE rfl λk H u c h=>?_
 unfold D_ at c;split at c
 ·rename_i m n g t
  cases c;simp only[F]at h;obtain⟨e,d,l,i,_⟩:=h;have e:=ci e;subst e;have o:=aL l;cases b:aG (V (ξ g) n)with
  |false=>
   have p:cp θ 1 (.block 0 (.loop (a4 0 dd))) ej:=nZ;refine⟨[.row η n 9 (J (ξ g)) t],bJ 0 ej,100,.cons (Ξ.row λj a=>aN d j a) .nil,cz (by kernel_rfl) p,?_⟩;show aC (ad θ (fx aG bg dS) (bJ 0 ej) 100 dd [.sl 0 9 0 0 n ζ,uN] [.row η n 9 (J (ξ g)) t] (af 1)) _
   rw[aqV,bV,cb];exact ag (by simp only[F,ah,aa,aB,aT,bw,bo];omega) (eS (by rw[b];rfl) (Φ ⟨rfl,.cons (Ξ.row λj a=>(aN d j a).symm) .nil⟩))
  |true=>
  rw[b,dD]at i;have q:bg ((V (ξ g) n).map jZ)=η:=by simpa using i
  have f:=Us b;have r:=XW n (ξ g) t o (λw s=>nq b s);refine⟨[.row η n 9 (J (ξ g)) t],xU n (ξ g) t n (Y ((V (ξ g) n).map jZ)),100,.cons (Ξ.row λj a=>aN d j a) .nil,cz (by kernel_rfl) r,?_⟩;show aC (ad θ (fx aG bg dS) (xU n (ξ g) t n (Y ((V (ξ g) n).map jZ))) 100 dd [.sl 0 9 0 0 n ζ,uN] [.row η n 9 (J (ξ g)) t] (af 1)) _
  rw[arl,bV,cb,fo ((V (ξ g) n).map jZ) n (by rw[cC,ch])];refine ag (by simp only[F,ah,aa,aB,aT,bw,bo];omega) (cL (by rw[b];rfl) (ag ?_ (Φ ⟨rfl,.cons (Ξ.row λj a=>(aN d j a).symm) .nil⟩)));simp only[F,ah,aa,bw];exact⟨bA (by omega),cg ⟨rfl,(.cons (Ξ.refl _) (.cons (Ξ.row λj a=>aO a (cN _)) .nil))⟩,by simp,trivial,bA (by omega),cg f,by rw[q];rfl⟩
 ·cases c
def aqW(a:E Wh->κ)(b c:E Wh->κ)(m:O)(f:ω)(t:ae)(x:Z):ad θ (fx a b c) (bJ 0 ej) 100 dd [.sl 0 9 0 0 m ζ,uO] [.row η m 9 (J f) t,.cells [.v (ι x)] 3] (af 2)=Ω [Θ (0+m) m,ak m λq=>J f (0+q),ο (m<=549755813888)] (bif !a (V (ξ λq=>J f (0+q)) m)then rO [AV.Ψ [AV.v (dk ζ 0 0),vB η]] [AB.row η m 9 (J f) t,AB.cells [vI x] 3]else Ω [ο ((m:Z)<=(1099511627776:Z))] ao.err):=by kernel_rfl
def kY(x:Z)(w:Wh):Wh:=⟨w.s,bC (zh w.r.f x)⟩
abbrev qf:Z->E Wh->E Wh:=λx L=>L.map (kY x)
def Ut(x:Z){L:E Wh}(h:aG L=ε):n8 (L.map (kY x)):=by intro c a;obtain⟨w,b,rfl⟩:=fX.1 a;exact EQ (Ok (tJ h b) _)
def XX(m:O)(f:ω)(t:ae)(x:Z)(k:m<=2^38)(d:∀w∈V f m,n7 w.r.f=ε)(e:aD x (-9223372036854775808) 9223372036854775807=ε):cp θ 2 (.block 0 (.loop (a4 0 dd))) (bD 32 (fG .normal) 2 (y4 m 0 0) (ro m f t x 0 (Y [])) (λa=>a .normal (aw 0 32 [(6,.own 2 m)]) (ro m f t x m (Y ((V f m).map (kY x)))))):=by
 refine dQ xA (n:=100) (m:=2) (lv:=fG) (λi=>y4 m i i) (λi=>ro m f t x i (Y ((V f i).map (kY x)))) (λ_=>True) m (λ_=>K) (du rfl rfl rfl) (aR _) trivial λa Q g i o h=>⟨cT _ _ _,?_⟩
 rw[amJ];refine ay (λb=>?_) λb=>?_
 ·have b:=aL b
  have c:i<m:=by omega
  rw[cY,bF,bR (x:=(i:Z)+1) (by omega)];refine ag (by simp only[F,ah,aa,aB,aT];exact⟨by omega,by omega,d _ (g8 (nb f c)),e,by omega,by omega⟩) (Φ ⟨i+1,⟨rfl,c,trivial⟩,rfl,?_⟩);show ab _ (ro m f t x (i+1) (Y ((V f (i+1)).map (kY x))))
  rw[gw,iN];refine(.cons (Ξ.refl _) (.cons (Ξ.refl _) (.cons (Ξ.row λq j=>?_) .nil)));exact nT _ ((kY x) (bm (f i))) i (by rw[cC,ch]) q j
 ·have b:=cE b
  have:i=m:=by omega
  subst this;refine Φ ⟨_,ab.refl _,?_⟩;rw[aP rfl];exact g
def Ef(b:E Wh->κ)(c:E Wh->E Wh)(d:E Wh->κ)(a:Z->E Wh->E Wh):E AV->E AB->χ HR
 |[.sl 0 9 0 0 m ζ,.fn 130 [.ptr 1 0 0 0]],[.row η n 9 g t,.cells [.v (.int .i64 x)] 3]=>γ {val:=.Ψ [.sl 2 9 0 0 (c (a x (V (ξ g) m))).length (γ (c (a x (V (ξ g) m))).length),.v (.bool ε)],out:=[.row η n 9 g t,.cells [.v (.int .i64 x)] 3],new:=fR (c (a x (V (ξ g) m))),ap:=[ai n m,ak m g,ο (m<=2^38),b (V (ξ g) m)&&d (a x (V (ξ g) m)),aD x (-9223372036854775808) 9223372036854775807]}
 |_,_=>ζ
def D'(a:E Wh->κ)(b:E Wh->κ)(c:Z->E Wh->E Wh):E AV->E AB->χ HR
 |[.sl 0 9 0 0 m ζ,.fn 130 [.ptr 1 0 0 0]],[.row η n 9 g t,.cells [.v (.int .i64 x)] 3]=>γ {val:=eQ,out:=[.row η n 9 g t,.cells [.v (.int .i64 x)] 3],ap:=[ai n m,ak m g,ο (m<=2^38),!(a (V (ξ g) m)&&b (c x (V (ξ g) m))),aD x (-9223372036854775808) 9223372036854775807]}
 |_,_=>ζ
def ajT:au θ 129 (da [ε] (Ef aG bv bg qf)):=by
 refine lV sW pE rfl λk H u b f=>?_
 unfold Ef at b;split at b
 ·rename_i m n g t x
  cases b;simp only[F]at f;obtain⟨c,h,l,i,o,_⟩:=f;have c:=ci c;subst c;have p:=aL l;rw[aM]at i;obtain⟨d,q⟩:=i;have e:=Ut x d;have r:=XX n (ξ g) t x p (λw s=>nq d s) o;refine⟨[.row η n 9 (J (ξ g)) t,.cells [.v (ι x)] 3],xV n (ξ g) t x n (Y ((V (ξ g) n).map (kY x))),100,.cons (Ξ.row λj a=>aN h j a) (.cons rfl .nil),cz (by kernel_rfl) r,?_⟩;show aC (ad θ (kA aG bv bg dS) (xV n (ξ g) t x n (Y ((V (ξ g) n).map (kY x)))) 100 dd [.sl 0 9 0 0 n ζ,uO] [.row η n 9 (J (ξ g)) t,.cells [.v (ι x)] 3] (af 2)) _
  rw[asg,bV,cb,fo ((V (ξ g) n).map (kY x)) n (by rw[cC,ch])];refine ag (by simp only[F,ah,aa,aB,aT,bw,bo];omega) (cL (by rw[d];rfl) (ag ?_ (Φ ⟨rfl,.cons (Ξ.row λj a=>(aN h j a).symm) (.cons rfl (ab.refl _))⟩)));simp only[F,ah,aa,bw];exact⟨bA (by omega),cg ⟨rfl,(.cons (Ξ.refl _) (.cons (Ξ.refl _) (.cons (Ξ.row λj a=>aO a (cN _)) .nil)))⟩,by simp,trivial,bA (by omega),cg e,q⟩
 ·cases b
def ajN:au θ 129 (da [ε] (D' aG bg qf)):=by
 refine lV sV pE rfl λk H v c h=>?_
 unfold D' at c;split at c
 ·rename_i m n g t x
  cases c;simp only[F]at h;obtain⟨e,d,l,i,o,_⟩:=h;have e:=ci e;subst e;have p:=aL l;cases b:aG (V (ξ g) n)with
  |false=>
   have q:cp θ 2 (.block 0 (.loop (a4 0 dd))) ej:=nZ;refine⟨[.row η n 9 (J (ξ g)) t,.cells [.v (ι x)] 3],bJ 0 ej,100,.cons (Ξ.row λj a=>aN d j a) (.cons rfl .nil),cz (by kernel_rfl) q,?_⟩;show aC (ad θ (fx aG bg dS) (bJ 0 ej) 100 dd [.sl 0 9 0 0 n ζ,uO] [.row η n 9 (J (ξ g)) t,.cells [.v (ι x)] 3] (af 2)) _
   rw[aqW,bV,cb];exact ag (by simp only[F,ah,aa,aB,aT,bw,bo];omega) (eS (by rw[b];rfl) (Φ ⟨rfl,.cons (Ξ.row λj a=>(aN d j a).symm) (.cons rfl .nil)⟩))
  |true=>
  rw[b,dD]at i;have r:bg ((V (ξ g) n).map (kY x))=η:=by simpa using i
  have f:=Ut x b;have s:=XX n (ξ g) t x p (λw u=>nq b u) o;refine⟨[.row η n 9 (J (ξ g)) t,.cells [.v (ι x)] 3],xV n (ξ g) t x n (Y ((V (ξ g) n).map (kY x))),100,.cons (Ξ.row λj a=>aN d j a) (.cons rfl .nil),cz (by kernel_rfl) s,?_⟩;show aC (ad θ (fx aG bg dS) (xV n (ξ g) t x n (Y ((V (ξ g) n).map (kY x)))) 100 dd [.sl 0 9 0 0 n ζ,uO] [.row η n 9 (J (ξ g)) t,.cells [.v (ι x)] 3] (af 2)) _
  rw[arm,bV,cb,fo ((V (ξ g) n).map (kY x)) n (by rw[cC,ch])];refine ag (by simp only[F,ah,aa,aB,aT,bw,bo];omega) (cL (by rw[b];rfl) (ag ?_ (Φ ⟨rfl,.cons (Ξ.row λj a=>(aN d j a).symm) (.cons rfl .nil)⟩)));simp only[F,ah,aa,bw];exact⟨bA (by omega),cg ⟨rfl,(.cons (Ξ.refl _) (.cons (Ξ.refl _) (.cons (Ξ.row λj a=>aO a (cN _)) .nil)))⟩,by simp,trivial,bA (by omega),cg f,by rw[r];rfl⟩
 ·cases c
def aqT(a:E Wh->κ)(b c:E Wh->κ)(m:O)(f:ω)(t:ae)(x:Z):ad θ (fx a b c) (bJ 0 ej) 100 dd [.sl 0 9 0 0 m ζ,uL] [.row η m 9 (J f) t,.cells [.v (ι x)] 3] (af 2)=Ω [Θ (0+m) m,ak m λq=>J f (0+q),ο (m<=549755813888)] (bif !a (V (ξ λq=>J f (0+q)) m)then rO [AV.Ψ [AV.v (dk ζ 0 0),vB η]] [AB.row η m 9 (J f) t,AB.cells [vI x] 3]else Ω [ο ((m:Z)<=(1099511627776:Z))] ao.err):=by kernel_rfl
def kW(x:Z)(w:Wh):Wh:=⟨w.s,bC (zh w.r.f (aj a7 (x*w.s)))⟩
abbrev qd:Z->E Wh->E Wh:=λx L=>L.map (kW x)
def Uq(x:Z){L:E Wh}(h:aG L=ε):n8 (L.map (kW x)):=by intro c a;obtain⟨w,b,rfl⟩:=fX.1 a;exact EQ (Ok (tJ h b) _)
def XU(m:O)(f:ω)(t:ae)(x:Z)(j:m<=2^38)(d:∀w∈V f m,n7 w.r.f=ε):cp θ 2 (.block 0 (.loop (a4 0 dd))) (bD 32 (fG .normal) 2 (yY m 0 0) (rk m f t x 0 (Y [])) (λa=>a .normal (aw 0 32 [(6,.own 2 m)]) (rk m f t x m (Y ((V f m).map (kW x)))))):=by
 refine dQ xA (n:=100) (m:=2) (lv:=fG) (λi=>yY m i i) (λi=>rk m f t x i (Y ((V f i).map (kW x)))) (λ_=>True) m (λ_=>K) (du rfl rfl rfl) (aR _) trivial λa Q e i l g=>⟨cT _ _ _,?_⟩
 rw[amG];refine ay (λb=>?_) λb=>?_
 ·have b:=aL b
  have c:i<m:=by omega
  rw[cY,bF,bR (x:=(i:Z)+1) (by omega)];refine ag (by simp only[F,ah,aa,aB,aT];exact⟨by omega,by omega,d _ (g8 (nb f c)),b9.2 (nr _),by omega,by omega⟩) (Φ ⟨i+1,⟨rfl,c,trivial⟩,rfl,?_⟩);show ab _ (rk m f t x (i+1) (Y ((V f (i+1)).map (kW x))))
  rw[gw,iN];refine(.cons (Ξ.refl _) (.cons (Ξ.refl _) (.cons (Ξ.row λq h=>?_) .nil)));exact nT _ ((kW x) (bm (f i))) i (by rw[cC,ch]) q h
 ·have b:=cE b
  have:i=m:=by omega
  subst this;refine Φ ⟨_,ab.refl _,?_⟩;rw[aP rfl];exact e
def Ec(b:E Wh->κ)(c:E Wh->E Wh)(d:E Wh->κ)(a:Z->E Wh->E Wh):E AV->E AB->χ HR
 |[.sl 0 9 0 0 m ζ,.fn 133 [.ptr 1 0 0 0]],[.row η n 9 g t,.cells [.v (.int .i64 x)] 3]=>γ {val:=.Ψ [.sl 2 9 0 0 (c (a x (V (ξ g) m))).length (γ (c (a x (V (ξ g) m))).length),.v (.bool ε)],out:=[.row η n 9 g t,.cells [.v (.int .i64 x)] 3],new:=fR (c (a x (V (ξ g) m))),ap:=[ai n m,ak m g,ο (m<=2^38),b (V (ξ g) m)&&d (a x (V (ξ g) m))]}
 |_,_=>ζ
def D8(a:E Wh->κ)(b:E Wh->κ)(c:Z->E Wh->E Wh):E AV->E AB->χ HR
 |[.sl 0 9 0 0 m ζ,.fn 133 [.ptr 1 0 0 0]],[.row η n 9 g t,.cells [.v (.int .i64 x)] 3]=>γ {val:=eQ,out:=[.row η n 9 g t,.cells [.v (.int .i64 x)] 3],ap:=[ai n m,ak m g,ο (m<=2^38),!(a (V (ξ g) m)&&b (c x (V (ξ g) m)))]}
 |_,_=>ζ
def ajQ:au θ 129 (da [ε] (Ec aG bv bg qd)):=by
 refine lV sW pE rfl λk H s b f=>?_
 unfold Ec at b;split at b
 ·rename_i m n g t x
  cases b;simp only[F]at f;obtain⟨c,h,l,i,_⟩:=f;have c:=ci c;subst c;have o:=aL l;rw[aM]at i;obtain⟨d,p⟩:=i;have e:=Uq x d;have q:=XU n (ξ g) t x o (λw r=>nq d r);refine⟨[.row η n 9 (J (ξ g)) t,.cells [.v (ι x)] 3],xS n (ξ g) t x n (Y ((V (ξ g) n).map (kW x))),100,.cons (Ξ.row λj a=>aN h j a) (.cons rfl .nil),cz (by kernel_rfl) q,?_⟩;show aC (ad θ (kA aG bv bg dS) (xS n (ξ g) t x n (Y ((V (ξ g) n).map (kW x)))) 100 dd [.sl 0 9 0 0 n ζ,uL] [.row η n 9 (J (ξ g)) t,.cells [.v (ι x)] 3] (af 2)) _
  rw[asd,bV,cb,fo ((V (ξ g) n).map (kW x)) n (by rw[cC,ch])];refine ag (by simp only[F,ah,aa,aB,aT,bw,bo];omega) (cL (by rw[d];rfl) (ag ?_ (Φ ⟨rfl,.cons (Ξ.row λj a=>(aN h j a).symm) (.cons rfl (ab.refl _))⟩)));simp only[F,ah,aa,bw];exact⟨bA (by omega),cg ⟨rfl,(.cons (Ξ.refl _) (.cons (Ξ.refl _) (.cons (Ξ.row λj a=>aO a (cN _)) .nil)))⟩,by simp,trivial,bA (by omega),cg e,p⟩
 ·cases b
def ajK:au θ 129 (da [ε] (D8 aG bg qd)):=by
 refine lV sV pE rfl λk H u c h=>?_
 unfold D8 at c;split at c
 ·rename_i m n g t x
  cases c;simp only[F]at h;obtain⟨e,d,l,i,_⟩:=h;have e:=ci e;subst e;have o:=aL l;cases b:aG (V (ξ g) n)with
  |false=>
   have p:cp θ 2 (.block 0 (.loop (a4 0 dd))) ej:=nZ;refine⟨[.row η n 9 (J (ξ g)) t,.cells [.v (ι x)] 3],bJ 0 ej,100,.cons (Ξ.row λj a=>aN d j a) (.cons rfl .nil),cz (by kernel_rfl) p,?_⟩;show aC (ad θ (fx aG bg dS) (bJ 0 ej) 100 dd [.sl 0 9 0 0 n ζ,uL] [.row η n 9 (J (ξ g)) t,.cells [.v (ι x)] 3] (af 2)) _
   rw[aqT,bV,cb];exact ag (by simp only[F,ah,aa,aB,aT,bw,bo];omega) (eS (by rw[b];rfl) (Φ ⟨rfl,.cons (Ξ.row λj a=>(aN d j a).symm) (.cons rfl .nil)⟩))
  |true=>
  rw[b,dD]at i;have q:bg ((V (ξ g) n).map (kW x))=η:=by simpa using i
  have f:=Uq x b;have r:=XU n (ξ g) t x o (λw s=>nq b s);refine⟨[.row η n 9 (J (ξ g)) t,.cells [.v (ι x)] 3],xS n (ξ g) t x n (Y ((V (ξ g) n).map (kW x))),100,.cons (Ξ.row λj a=>aN d j a) (.cons rfl .nil),cz (by kernel_rfl) r,?_⟩;show aC (ad θ (fx aG bg dS) (xS n (ξ g) t x n (Y ((V (ξ g) n).map (kW x)))) 100 dd [.sl 0 9 0 0 n ζ,uL] [.row η n 9 (J (ξ g)) t,.cells [.v (ι x)] 3] (af 2)) _
  rw[arj,bV,cb,fo ((V (ξ g) n).map (kW x)) n (by rw[cC,ch])];refine ag (by simp only[F,ah,aa,aB,aT,bw,bo];omega) (cL (by rw[b];rfl) (ag ?_ (Φ ⟨rfl,.cons (Ξ.row λj a=>(aN d j a).symm) (.cons rfl .nil)⟩)));simp only[F,ah,aa,bw];exact⟨bA (by omega),cg ⟨rfl,(.cons (Ξ.refl _) (.cons (Ξ.refl _) (.cons (Ξ.row λj a=>aO a (cN _)) .nil)))⟩,by simp,trivial,bA (by omega),cg f,by rw[q];rfl⟩
 ·cases c
def aqR(a:E Wh->κ)(b c:E Wh->κ)(m:O)(f:ω)(t:ae):ad θ (fx a b c) (bJ 0 ej) 100 dd [.sl 0 9 0 0 m ζ,uI] [.row η m 9 (J f) t] (af 1)=Ω [Θ (0+m) m,ak m λq=>J f (0+q),ο (m<=549755813888)] (bif !a (V (ξ λq=>J f (0+q)) m)then rO [AV.Ψ [AV.v (dk ζ 0 0),vB η]] [AB.row η m 9 (J f) t]else Ω [ο ((m:Z)<=(1099511627776:Z))] ao.err):=by kernel_rfl
def kU(w:Wh):Wh:=⟨aj a7 (0-w.s),w.r⟩
abbrev qb:E Wh->E Wh:=λL=>L.map kU
def Uo{L:E Wh}(h:aG L=ε):n8 (L.map kU):=by intro c a;obtain⟨w,b,rfl⟩:=fX.1 a;exact(tJ h b:mY w.r)
def XS(m:O)(f:ω)(t:ae)(j:m<=2^38)(d:∀w∈V f m,n7 w.r.f=ε):cp θ 1 (.block 0 (.loop (a4 0 dd))) (bD 32 (fG .normal) 1 (yW m 0 0) (rg m f t 0 (Y [])) (λa=>a .normal (aw 0 32 [(6,.own 1 m)]) (rg m f t m (Y ((V f m).map kU))))):=by
 refine dQ xA (n:=100) (m:=1) (lv:=fG) (λi=>yW m i i) (λi=>rg m f t i (Y ((V f i).map kU))) (λ_=>True) m (λ_=>K) (du rfl rfl rfl) (aR _) trivial λa Q e i l g=>⟨cT _ _ _,?_⟩
 rw[amE];refine ay (λb=>?_) λb=>?_
 ·have b:=aL b
  have c:i<m:=by omega
  rw[cY,bF,bR (x:=(i:Z)+1) (by omega)];refine ag (by simp only[F,ah,aa,aB,aT];omega) (Φ ⟨i+1,⟨rfl,c,trivial⟩,rfl,?_⟩);show ab _ (rg m f t (i+1) (Y ((V f (i+1)).map kU)))
  rw[gw,iN];refine(.cons (Ξ.refl _) (.cons (Ξ.row λq h=>?_) .nil));exact nT _ (kU (bm (f i))) i (by rw[cC,ch]) q h
 ·have b:=cE b
  have:i=m:=by omega
  subst this;refine Φ ⟨_,ab.refl _,?_⟩;rw[aP rfl];exact e
def Ea(b:E Wh->κ)(c:E Wh->E Wh)(d:E Wh->κ)(a:E Wh->E Wh):E AV->E AB->χ HR
 |[.sl 0 9 0 0 m ζ,.fn 136 []],[.row η n 9 g t]=>γ {val:=.Ψ [.sl 1 9 0 0 (c (a (V (ξ g) m))).length (γ (c (a (V (ξ g) m))).length),.v (.bool ε)],out:=[.row η n 9 g t],new:=fR (c (a (V (ξ g) m))),ap:=[ai n m,ak m g,ο (m<=2^38),b (V (ξ g) m)&&d (a (V (ξ g) m))]}
 |_,_=>ζ
def D6(a:E Wh->κ)(b:E Wh->κ)(c:E Wh->E Wh):E AV->E AB->χ HR
 |[.sl 0 9 0 0 m ζ,.fn 136 []],[.row η n 9 g t]=>γ {val:=eQ,out:=[.row η n 9 g t],ap:=[ai n m,ak m g,ο (m<=2^38),!(a (V (ξ g) m)&&b (c (V (ξ g) m)))]}
 |_,_=>ζ
def ajO:au θ 129 (da [ε] (Ea aG bv bg qb)):=by
 refine lV sW pE rfl λk H s b f=>?_
 unfold Ea at b;split at b
 ·rename_i m n g t
  cases b;simp only[F]at f;obtain⟨c,h,l,i,_⟩:=f;have c:=ci c;subst c;have o:=aL l;rw[aM]at i;obtain⟨d,p⟩:=i;have e:=Uo d;have q:=XS n (ξ g) t o (λw r=>nq d r);refine⟨[.row η n 9 (J (ξ g)) t],xQ n (ξ g) t n (Y ((V (ξ g) n).map kU)),100,.cons (Ξ.row λj a=>aN h j a) .nil,cz (by kernel_rfl) q,?_⟩;show aC (ad θ (kA aG bv bg dS) (xQ n (ξ g) t n (Y ((V (ξ g) n).map kU))) 100 dd [.sl 0 9 0 0 n ζ,uI] [.row η n 9 (J (ξ g)) t] (af 1)) _
  rw[asb,bV,cb,fo ((V (ξ g) n).map kU) n (by rw[cC,ch])];refine ag (by simp only[F,ah,aa,aB,aT,bw,bo];omega) (cL (by rw[d];rfl) (ag ?_ (Φ ⟨rfl,.cons (Ξ.row λj a=>(aN h j a).symm) (ab.refl _)⟩)));simp only[F,ah,aa,bw];exact⟨bA (by omega),cg ⟨rfl,(.cons (Ξ.refl _) (.cons (Ξ.row λj a=>aO a (cN _)) .nil))⟩,by simp,trivial,bA (by omega),cg e,p⟩
 ·cases b
def ajI:au θ 129 (da [ε] (D6 aG bg qb)):=by
 refine lV sV pE rfl λk H u c h=>?_
 unfold D6 at c;split at c
 ·rename_i m n g t
  cases c;simp only[F]at h;obtain⟨e,d,l,i,_⟩:=h;have e:=ci e;subst e;have o:=aL l;cases b:aG (V (ξ g) n)with
  |false=>
   have p:cp θ 1 (.block 0 (.loop (a4 0 dd))) ej:=nZ;refine⟨[.row η n 9 (J (ξ g)) t],bJ 0 ej,100,.cons (Ξ.row λj a=>aN d j a) .nil,cz (by kernel_rfl) p,?_⟩;show aC (ad θ (fx aG bg dS) (bJ 0 ej) 100 dd [.sl 0 9 0 0 n ζ,uI] [.row η n 9 (J (ξ g)) t] (af 1)) _
   rw[aqR,bV,cb];exact ag (by simp only[F,ah,aa,aB,aT,bw,bo];omega) (eS (by rw[b];rfl) (Φ ⟨rfl,.cons (Ξ.row λj a=>(aN d j a).symm) .nil⟩))
  |true=>
  rw[b,dD]at i;have q:bg ((V (ξ g) n).map kU)=η:=by simpa using i
  have f:=Uo b;have r:=XS n (ξ g) t o (λw s=>nq b s);refine⟨[.row η n 9 (J (ξ g)) t],xQ n (ξ g) t n (Y ((V (ξ g) n).map kU)),100,.cons (Ξ.row λj a=>aN d j a) .nil,cz (by kernel_rfl) r,?_⟩;show aC (ad θ (fx aG bg dS) (xQ n (ξ g) t n (Y ((V (ξ g) n).map kU))) 100 dd [.sl 0 9 0 0 n ζ,uI] [.row η n 9 (J (ξ g)) t] (af 1)) _
  rw[arh,bV,cb,fo ((V (ξ g) n).map kU) n (by rw[cC,ch])];refine ag (by simp only[F,ah,aa,aB,aT,bw,bo];omega) (cL (by rw[b];rfl) (ag ?_ (Φ ⟨rfl,.cons (Ξ.row λj a=>(aN d j a).symm) .nil⟩)));simp only[F,ah,aa,bw];exact⟨bA (by omega),cg ⟨rfl,(.cons (Ξ.refl _) (.cons (Ξ.row λj a=>aO a (cN _)) .nil))⟩,by simp,trivial,bA (by omega),cg f,by rw[q];rfl⟩
 ·cases c
def aqU(a:E Wh->κ)(b c:E Wh->κ)(m:O)(f:ω)(t:ae):ad θ (fx a b c) (bJ 0 ej) 100 dd [.sl 0 9 0 0 m ζ,uM] [.row η m 9 (J f) t] (af 1)=Ω [Θ (0+m) m,ak m λq=>J f (0+q),ο (m<=549755813888)] (bif !a (V (ξ λq=>J f (0+q)) m)then rO [AV.Ψ [AV.v (dk ζ 0 0),vB η]] [AB.row η m 9 (J f) t]else Ω [ο ((m:Z)<=(1099511627776:Z))] ao.err):=by kernel_rfl
def kX(w:Wh):Wh:=⟨aj a7 (0-w.s),bC (jl w.r.f)⟩
abbrev qe:E Wh->E Wh:=λL=>L.map kX
def Ur{L:E Wh}(_:aG L=ε):n8 (L.map kX):=by intro b a;obtain⟨w,c,rfl⟩:=fX.1 a;exact EQ λk _=>nr _
def XV(m:O)(f:ω)(t:ae)(j:m<=2^38)(d:∀w∈V f m,n7 w.r.f=ε):cp θ 1 (.block 0 (.loop (a4 0 dd))) (bD 32 (fG .normal) 1 (yZ m 0 0) (rm m f t 0 (Y [])) (λa=>a .normal (aw 0 32 [(6,.own 1 m)]) (rm m f t m (Y ((V f m).map kX))))):=by
 refine dQ xA (n:=100) (m:=1) (lv:=fG) (λi=>yZ m i i) (λi=>rm m f t i (Y ((V f i).map kX))) (λ_=>True) m (λ_=>K) (du rfl rfl rfl) (aR _) trivial λa Q e i l g=>⟨cT _ _ _,?_⟩
 rw[amH];refine ay (λb=>?_) λb=>?_
 ·have b:=aL b
  have c:i<m:=by omega
  rw[cY,bF,bR (x:=(i:Z)+1) (by omega)];refine ag (by simp only[F,ah,aa,aB,aT];omega) (Φ ⟨i+1,⟨rfl,c,trivial⟩,rfl,?_⟩);show ab _ (rm m f t (i+1) (Y ((V f (i+1)).map kX)))
  rw[gw,iN];refine(.cons (Ξ.refl _) (.cons (Ξ.row λq h=>?_) .nil));exact nT _ (kX (bm (f i))) i (by rw[cC,ch]) q h
 ·have b:=cE b
  have:i=m:=by omega
  subst this;refine Φ ⟨_,ab.refl _,?_⟩;rw[aP rfl];exact e
def Ed(b:E Wh->κ)(c:E Wh->E Wh)(d:E Wh->κ)(a:E Wh->E Wh):E AV->E AB->χ HR
 |[.sl 0 9 0 0 m ζ,.fn 137 []],[.row η n 9 g t]=>γ {val:=.Ψ [.sl 1 9 0 0 (c (a (V (ξ g) m))).length (γ (c (a (V (ξ g) m))).length),.v (.bool ε)],out:=[.row η n 9 g t],new:=fR (c (a (V (ξ g) m))),ap:=[ai n m,ak m g,ο (m<=2^38),b (V (ξ g) m)&&d (a (V (ξ g) m))]}
 |_,_=>ζ
def D9(a:E Wh->κ)(b:E Wh->κ)(c:E Wh->E Wh):E AV->E AB->χ HR
 |[.sl 0 9 0 0 m ζ,.fn 137 []],[.row η n 9 g t]=>γ {val:=eQ,out:=[.row η n 9 g t],ap:=[ai n m,ak m g,ο (m<=2^38),!(a (V (ξ g) m)&&b (c (V (ξ g) m)))]}
 |_,_=>ζ
def ajR:au θ 129 (da [ε] (Ed aG bv bg qe)):=by
 refine lV sW pE rfl λk H s b f=>?_
 unfold Ed at b;split at b
 ·rename_i m n g t
  cases b;simp only[F]at f;obtain⟨c,h,l,i,_⟩:=f;have c:=ci c;subst c;have o:=aL l;rw[aM]at i;obtain⟨d,p⟩:=i;have e:=Ur d;have q:=XV n (ξ g) t o (λw r=>nq d r);refine⟨[.row η n 9 (J (ξ g)) t],xT n (ξ g) t n (Y ((V (ξ g) n).map kX)),100,.cons (Ξ.row λj a=>aN h j a) .nil,cz (by kernel_rfl) q,?_⟩;show aC (ad θ (kA aG bv bg dS) (xT n (ξ g) t n (Y ((V (ξ g) n).map kX))) 100 dd [.sl 0 9 0 0 n ζ,uM] [.row η n 9 (J (ξ g)) t] (af 1)) _
  rw[ase,bV,cb,fo ((V (ξ g) n).map kX) n (by rw[cC,ch])];refine ag (by simp only[F,ah,aa,aB,aT,bw,bo];omega) (cL (by rw[d];rfl) (ag ?_ (Φ ⟨rfl,.cons (Ξ.row λj a=>(aN h j a).symm) (ab.refl _)⟩)));simp only[F,ah,aa,bw];exact⟨bA (by omega),cg ⟨rfl,(.cons (Ξ.refl _) (.cons (Ξ.row λj a=>aO a (cN _)) .nil))⟩,by simp,trivial,bA (by omega),cg e,p⟩
 ·cases b
def ajL:au θ 129 (da [ε] (D9 aG bg qe)):=by
 refine lV sV pE rfl λk H u c h=>?_
 unfold D9 at c;split at c
 ·rename_i m n g t
  cases c;simp only[F]at h;obtain⟨e,d,l,i,_⟩:=h;have e:=ci e;subst e;have o:=aL l;cases b:aG (V (ξ g) n)with
  |false=>
   have p:cp θ 1 (.block 0 (.loop (a4 0 dd))) ej:=nZ;refine⟨[.row η n 9 (J (ξ g)) t],bJ 0 ej,100,.cons (Ξ.row λj a=>aN d j a) .nil,cz (by kernel_rfl) p,?_⟩;show aC (ad θ (fx aG bg dS) (bJ 0 ej) 100 dd [.sl 0 9 0 0 n ζ,uM] [.row η n 9 (J (ξ g)) t] (af 1)) _
   rw[aqU,bV,cb];exact ag (by simp only[F,ah,aa,aB,aT,bw,bo];omega) (eS (by rw[b];rfl) (Φ ⟨rfl,.cons (Ξ.row λj a=>(aN d j a).symm) .nil⟩))
  |true=>
  rw[b,dD]at i;have q:bg ((V (ξ g) n).map kX)=η:=by simpa using i
  have f:=Ur b;have r:=XV n (ξ g) t o (λw s=>nq b s);refine⟨[.row η n 9 (J (ξ g)) t],xT n (ξ g) t n (Y ((V (ξ g) n).map kX)),100,.cons (Ξ.row λj a=>aN d j a) .nil,cz (by kernel_rfl) r,?_⟩;show aC (ad θ (fx aG bg dS) (xT n (ξ g) t n (Y ((V (ξ g) n).map kX))) 100 dd [.sl 0 9 0 0 n ζ,uM] [.row η n 9 (J (ξ g)) t] (af 1)) _
  rw[ark,bV,cb,fo ((V (ξ g) n).map kX) n (by rw[cC,ch])];refine ag (by simp only[F,ah,aa,aB,aT,bw,bo];omega) (cL (by rw[b];rfl) (ag ?_ (Φ ⟨rfl,.cons (Ξ.row λj a=>(aN d j a).symm) .nil⟩)));simp only[F,ah,aa,bw];exact⟨bA (by omega),cg ⟨rfl,(.cons (Ξ.refl _) (.cons (Ξ.row λj a=>aO a (cN _)) .nil))⟩,by simp,trivial,bA (by omega),cg f,by rw[q];rfl⟩
 ·cases c
def mG(L:E Wh):κ:=(aG L&&bg (L.map jZ))
def IU(a:E Wh->κ)(b:E Wh->E Wh)(c:E Wh->E Wh):E SA->χ FR
 |[.row m g]=>γ {val:=js (b (c (V (ξ g) m))),new:=fR (b (c (V (ξ g) m))),ap:=[ak m g,ο (m<=2^38),a (V (ξ g) m)]}
 |_=>ζ
def QA(a:E Wh->κ):E SA->χ FR
 |[.row m g]=>γ {val:=eQ,ap:=[ak m g,ο (m<=2^38),!a (V (ξ g) m)]}
 |_=>ζ
def aqK(a:E Wh->κ)(e:E Wh->E Wh)(b:E Wh->κ)(c:E Wh->E Wh)(m:O)(f:ω):let d:=(V (ξ (J f)) m);let g:=(b_ (e (c d)));ad θ (ext fm 129 (da [ε] (Ee a e b c))) K 100 Px [.sl 0 9 0 0 m ζ] [.row η m 9 (J f) 112] (af 1)
 =Ω [ai m m,ak m (J f),ο (m<=274877906944),a d&&b (c d)] (rO [AV.Ψ [AV.sl 1 9 0 0 g (γ g),vB ε]] [AB.row η m 9 (J f) 112,AB.row ε g 9 (J (Y (e (c d)))) 112]):=by intros;kernel_rfl
def aqC(a:E Wh->κ)(b:E Wh->κ)(c:E Wh->E Wh)(m:O)(f:ω):ad θ (ext fm 129 (da [ε] (D_ a b c))) K 100 Px [.sl 0 9 0 0 m ζ] [.row η m 9 (J f) 112] (af 1)=Ω [ai m m,ak m (J f),ο (m<=274877906944),!(a (V (ξ (J f)) m)&&b (c (V (ξ (J f)) m)))] (rO [AV.Ψ [AV.v (dk ζ 0 0),vB η]] [AB.row η m 9 (J f) 112]):=by kernel_rfl
def VO:au θ 139 (am bP (IU mG bv ve)):=by
 refine bY (az jz ajS) func139 rfl λf k a c=>?_
 unfold IU at a;split at a
 ·rename_i m g
  cases a;simp only[F]at c;obtain⟨d,h,e,_⟩:=c;have i:=aL h;refine⟨[.row η m 9 (J (ξ g)) 112],K,100,.cons (Ξ.row λj b=>aN d j b) .nil,dq _,?_⟩;show aC (ad θ (ext fm 129 (da [ε] (Ee aG bv bg ve))) K 100 Px [.sl 0 9 0 0 m ζ] [.row η m 9 (J (ξ g)) 112] (af 1)) _
  rw[aqK];rw[mG]at e;exact ag (by simp only[F,ah,aa,h_,bw,cb,bo];exact⟨bA i,e⟩) (Φ ⟨_,rfl,rfl,.cons (Ξ.row λj b=>(aN d j b).symm) (ab.refl _)⟩)
 ·cases a
def VN:au θ 139 (am bP (QA mG)):=by
 refine bY (az jz ajM) func139 rfl λf k a c=>?_
 unfold QA at a;split at a
 ·rename_i m g
  cases a;simp only[F]at c;obtain⟨d,h,e,_⟩:=c;have i:=aL h;refine⟨[.row η m 9 (J (ξ g)) 112],K,100,.cons (Ξ.row λj b=>aN d j b) .nil,dq _,?_⟩;show aC (ad θ (ext fm 129 (da [ε] (D_ aG bg ve))) K 100 Px [.sl 0 9 0 0 m ζ] [.row η m 9 (J (ξ g)) 112] (af 1)) _
  rw[aqC];rw[mG]at e;exact ag (by simp only[F,ah,aa,h_,bw,cb,bo];exact⟨bA i,e⟩) (Φ ⟨_,rfl,rfl,.cons (Ξ.row λj b=>(aN d j b).symm) .nil⟩)
 ·cases a
def nB(x:Z)(L:E Wh):κ:=aD x 0 23&&(aG L&&bg (L.map (kY x)))
def IV(a:Z->E Wh->κ)(b:E Wh->E Wh)(c:Z->E Wh->E Wh):E SA->χ FR
 |[.row m g,.v (.int .i64 x)]=>γ {val:=js (b (c x (V (ξ g) m))),new:=fR (b (c x (V (ξ g) m))),ap:=[ak m g,ο (m<=2^38),a x (V (ξ g) m)]}
 |_=>ζ
def IN(a:Z->E Wh->κ):E SA->χ FR
 |[.row m g,.v (.int .i64 x)]=>γ {val:=eQ,ap:=[ak m g,ο (m<=2^38),!a x (V (ξ g) m)]}
 |_=>ζ
def aqL(a:E Wh->κ)(c:E Wh->E Wh)(b:E Wh->κ)(g:Z->E Wh->E Wh)(m:O)(f:ω)(x:Z):let h:=AB.row η m 9 (J f) 112;let i:=(V (ξ (J f)) m);let d:=(g x i);let e:=(b_ (c d));ad θ (ext fm 129 (da [ε] (Ef a c b g))) K 100 PJ [.sl 0 9 0 0 m ζ,.v (ι x)] [.row η m 9 (J f) 112] (af 1)
 =bif !aD x (0:Z) (23:Z)then rO [AV.Ψ [AV.v (dk ζ 0 0),vB η]] [h]else Ω [ai m m,ak m (J f),ο (m<=274877906944),a i&&b d,aD x (-9223372036854775808:Z) (9223372036854775807:Z)] (rO [AV.Ψ [AV.sl 1 9 0 0 e (γ e),vB ε]] [h,AB.row ε e 9 (J (Y (c d))) 112]):=by intros;kernel_rfl
def aqD(a:E Wh->κ)(b:E Wh->κ)(c:Z->E Wh->E Wh)(m:O)(f:ω)(x:Z):let d:=[AV.Ψ [AV.v (dk ζ 0 0),vB η]];let e:=[AB.row η m 9 (J f) 112];let g:=(V (ξ (J f)) m);ad θ (ext fm 129 (da [ε] (D' a b c))) K 100 PJ [.sl 0 9 0 0 m ζ,.v (ι x)] [.row η m 9 (J f) 112] (af 1)
 =bif !aD x (0:Z) (23:Z)then rO d e else Ω [ai m m,ak m (J f),ο (m<=274877906944),!(a g&&b (c x g)),aD x (-9223372036854775808:Z) (9223372036854775807:Z)] (rO d e):=by intros;kernel_rfl
def aj':au θ 67 (am dy (IV nB bv qf)):=by
 refine bY (az jz ajT) func67 rfl λh n a d=>?_
 unfold IV at a;split at a
 ·rename_i m g x
  cases a;simp only[F]at d;obtain⟨e,i,b,_⟩:=d;have k:=aL i;refine⟨[.row η m 9 (J (ξ g)) 112],K,100,.cons (Ξ.row λj c=>aN e j c) .nil,dq _,?_⟩;show aC (ad θ (ext fm 129 (da [ε] (Ef aG bv bg qf))) K 100 PJ [.sl 0 9 0 0 m ζ,.v (ι x)] [.row η m 9 (J (ξ g)) 112] (af 1)) _
  rw[aqL];rw[nB,aM]at b;obtain⟨f,b⟩:=b;have l:=b9.1 f;exact cL (by rw[f];rfl) (ag (by simp only[F,ah,aa,h_,bw,cb,bo];exact⟨bA k,b,b9.2 (by omega)⟩) (Φ ⟨_,rfl,rfl,.cons (Ξ.row λj c=>(aN e j c).symm) (ab.refl _)⟩))
 ·cases a
def aj6:au θ 67 (am dy (IN nB)):=by
 refine bY (az jz ajN) func67 rfl λh n b d=>?_
 unfold IN at b;split at b
 ·rename_i m g x
  cases b;simp only[F]at d;obtain⟨c,i,e,_⟩:=d;have k:=aL i;refine⟨[.row η m 9 (J (ξ g)) 112],K,100,.cons (Ξ.row λj a=>aN c j a) .nil,dq _,?_⟩;show aC (ad θ (ext fm 129 (da [ε] (D' aG bg qf))) K 100 PJ [.sl 0 9 0 0 m ζ,.v (ι x)] [.row η m 9 (J (ξ g)) 112] (af 1)) _
  rw[aqD];cases f:aD x 0 23 with
  |false=>exact eS rfl (Φ ⟨_,rfl,rfl,.cons (Ξ.row λj a=>(aN c j a).symm) .nil⟩)
  |true=>rw[nB,f,dD]at e;have l:=b9.1 f;exact cL rfl (ag (by simp only[F,ah,aa,h_,bw,cb,bo];exact⟨bA k,e,b9.2 (by omega)⟩) (Φ ⟨_,rfl,rfl,.cons (Ξ.row λj a=>(aN c j a).symm) .nil⟩))
 ·cases b
def nz(x:Z)(L:E Wh):κ:=aD x 0 23&&(aG L&&bg (L.map (kW x)))
def IS(a:Z->E Wh->κ)(b:E Wh->E Wh)(c:Z->E Wh->E Wh):E SA->χ FR
 |[.row m g,.v (.int .i64 x)]=>γ {val:=js (b (c x (V (ξ g) m))),new:=fR (b (c x (V (ξ g) m))),ap:=[ak m g,ο (m<=2^38),a x (V (ξ g) m)]}
 |_=>ζ
def IK(a:Z->E Wh->κ):E SA->χ FR
 |[.row m g,.v (.int .i64 x)]=>γ {val:=eQ,ap:=[ak m g,ο (m<=2^38),!a x (V (ξ g) m)]}
 |_=>ζ
def aqI(a:E Wh->κ)(c:E Wh->E Wh)(b:E Wh->κ)(g:Z->E Wh->E Wh)(m:O)(f:ω)(x:Z):let h:=AB.row η m 9 (J f) 112;let i:=(V (ξ (J f)) m);let d:=(g x i);let e:=(b_ (c d));ad θ (ext fm 129 (da [ε] (Ec a c b g))) K 100 PK [.sl 0 9 0 0 m ζ,.v (ι x)] [.row η m 9 (J f) 112] (af 1)
 =bif !aD x (0:Z) (23:Z)then rO [AV.Ψ [AV.v (dk ζ 0 0),vB η]] [h]else Ω [ai m m,ak m (J f),ο (m<=274877906944),a i&&b d] (rO [AV.Ψ [AV.sl 1 9 0 0 e (γ e),vB ε]] [h,AB.row ε e 9 (J (Y (c d))) 112]):=by intros;kernel_rfl
def aqA(a:E Wh->κ)(b:E Wh->κ)(c:Z->E Wh->E Wh)(m:O)(f:ω)(x:Z):let d:=[AV.Ψ [AV.v (dk ζ 0 0),vB η]];let e:=[AB.row η m 9 (J f) 112];let g:=(V (ξ (J f)) m);ad θ (ext fm 129 (da [ε] (D8 a b c))) K 100 PK [.sl 0 9 0 0 m ζ,.v (ι x)] [.row η m 9 (J f) 112] (af 1)
 =bif !aD x (0:Z) (23:Z)then rO d e else Ω [ai m m,ak m (J f),ο (m<=274877906944),!(a g&&b (c x g))] (rO d e):=by intros;kernel_rfl
def aj9:au θ 69 (am dy (IS nz bv qd)):=by
 refine bY (az jz ajQ) func69 rfl λh n a d=>?_
 unfold IS at a;split at a
 ·rename_i m g x
  cases a;simp only[F]at d;obtain⟨e,i,b,_⟩:=d;have k:=aL i;refine⟨[.row η m 9 (J (ξ g)) 112],K,100,.cons (Ξ.row λj c=>aN e j c) .nil,dq _,?_⟩;show aC (ad θ (ext fm 129 (da [ε] (Ec aG bv bg qd))) K 100 PK [.sl 0 9 0 0 m ζ,.v (ι x)] [.row η m 9 (J (ξ g)) 112] (af 1)) _
  rw[aqI];rw[nz,aM]at b;obtain⟨f,b⟩:=b;have l:=b9.1 f;exact cL (by rw[f];rfl) (ag (by simp only[F,ah,aa,h_,bw,cb,bo];exact⟨bA k,b⟩) (Φ ⟨_,rfl,rfl,.cons (Ξ.row λj c=>(aN e j c).symm) (ab.refl _)⟩))
 ·cases a
def aj4:au θ 69 (am dy (IK nz)):=by
 refine bY (az jz ajK) func69 rfl λh n b d=>?_
 unfold IK at b;split at b
 ·rename_i m g x
  cases b;simp only[F]at d;obtain⟨c,i,e,_⟩:=d;have k:=aL i;refine⟨[.row η m 9 (J (ξ g)) 112],K,100,.cons (Ξ.row λj a=>aN c j a) .nil,dq _,?_⟩;show aC (ad θ (ext fm 129 (da [ε] (D8 aG bg qd))) K 100 PK [.sl 0 9 0 0 m ζ,.v (ι x)] [.row η m 9 (J (ξ g)) 112] (af 1)) _
  rw[aqA];cases f:aD x 0 23 with
  |false=>exact eS rfl (Φ ⟨_,rfl,rfl,.cons (Ξ.row λj a=>(aN c j a).symm) .nil⟩)
  |true=>rw[nz,f,dD]at e;have l:=b9.1 f;exact cL rfl (ag (by simp only[F,ah,aa,h_,bw,cb,bo];exact⟨bA k,e⟩) (Φ ⟨_,rfl,rfl,.cons (Ξ.row λj a=>(aN c j a).symm) .nil⟩))
 ·cases b
def nx(L:E Wh):κ:=(aG L&&bg (L.map kU))
def IP(a:E Wh->κ)(b:E Wh->E Wh)(c:E Wh->E Wh):E SA->χ FR
 |[.row m g]=>γ {val:=js (b (c (V (ξ g) m))),new:=fR (b (c (V (ξ g) m))),ap:=[ak m g,ο (m<=2^38),a (V (ξ g) m)]}
 |_=>ζ
def II(a:E Wh->κ):E SA->χ FR
 |[.row m g]=>γ {val:=eQ,ap:=[ak m g,ο (m<=2^38),!a (V (ξ g) m)]}
 |_=>ζ
def aqG(a:E Wh->κ)(e:E Wh->E Wh)(b:E Wh->κ)(c:E Wh->E Wh)(m:O)(f:ω):let d:=(V (ξ (J f)) m);let g:=(b_ (e (c d)));ad θ (ext fm 129 (da [ε] (Ea a e b c))) K 100 PM [.sl 0 9 0 0 m ζ] [.row η m 9 (J f) 112] (af 1)
 =Ω [ai m m,ak m (J f),ο (m<=274877906944),a d&&b (c d)] (rO [AV.Ψ [AV.sl 1 9 0 0 g (γ g),vB ε]] [AB.row η m 9 (J f) 112,AB.row ε g 9 (J (Y (e (c d)))) 112]):=by intros;kernel_rfl
def aqy(a:E Wh->κ)(b:E Wh->κ)(c:E Wh->E Wh)(m:O)(f:ω):ad θ (ext fm 129 (da [ε] (D6 a b c))) K 100 PM [.sl 0 9 0 0 m ζ] [.row η m 9 (J f) 112] (af 1)=Ω [ai m m,ak m (J f),ο (m<=274877906944),!(a (V (ξ (J f)) m)&&b (c (V (ξ (J f)) m)))] (rO [AV.Ψ [AV.v (dk ζ 0 0),vB η]] [AB.row η m 9 (J f) 112]):=by kernel_rfl
def aj7:au θ 71 (am bP (IP nx bv qb)):=by
 refine bY (az jz ajO) func71 rfl λf k a c=>?_
 unfold IP at a;split at a
 ·rename_i m g
  cases a;simp only[F]at c;obtain⟨d,h,e,_⟩:=c;have i:=aL h;refine⟨[.row η m 9 (J (ξ g)) 112],K,100,.cons (Ξ.row λj b=>aN d j b) .nil,dq _,?_⟩;show aC (ad θ (ext fm 129 (da [ε] (Ea aG bv bg qb))) K 100 PM [.sl 0 9 0 0 m ζ] [.row η m 9 (J (ξ g)) 112] (af 1)) _
  rw[aqG];rw[nx]at e;exact ag (by simp only[F,ah,aa,h_,bw,cb,bo];exact⟨bA i,e⟩) (Φ ⟨_,rfl,rfl,.cons (Ξ.row λj b=>(aN d j b).symm) (ab.refl _)⟩)
 ·cases a
def aj2:au θ 71 (am bP (II nx)):=by
 refine bY (az jz ajI) func71 rfl λf k a c=>?_
 unfold II at a;split at a
 ·rename_i m g
  cases a;simp only[F]at c;obtain⟨d,h,e,_⟩:=c;have i:=aL h;refine⟨[.row η m 9 (J (ξ g)) 112],K,100,.cons (Ξ.row λj b=>aN d j b) .nil,dq _,?_⟩;show aC (ad θ (ext fm 129 (da [ε] (D6 aG bg qb))) K 100 PM [.sl 0 9 0 0 m ζ] [.row η m 9 (J (ξ g)) 112] (af 1)) _
  rw[aqy];rw[nx]at e;exact ag (by simp only[F,ah,aa,h_,bw,cb,bo];exact⟨bA i,e⟩) (Φ ⟨_,rfl,rfl,.cons (Ξ.row λj b=>(aN d j b).symm) .nil⟩)
 ·cases a
def nA(L:E Wh):κ:=(aG L&&bg (L.map kX))
def IT(a:E Wh->κ)(b:E Wh->E Wh)(c:E Wh->E Wh):E SA->χ FR
 |[.row m g]=>γ {val:=js (b (c (V (ξ g) m))),new:=fR (b (c (V (ξ g) m))),ap:=[ak m g,ο (m<=2^38),a (V (ξ g) m)]}
 |_=>ζ
def IL(a:E Wh->κ):E SA->χ FR
 |[.row m g]=>γ {val:=eQ,ap:=[ak m g,ο (m<=2^38),!a (V (ξ g) m)]}
 |_=>ζ
def aqJ(a:E Wh->κ)(e:E Wh->E Wh)(b:E Wh->κ)(c:E Wh->E Wh)(m:O)(f:ω):let d:=(V (ξ (J f)) m);let g:=(b_ (e (c d)));ad θ (ext fm 129 (da [ε] (Ed a e b c))) K 100 PN [.sl 0 9 0 0 m ζ] [.row η m 9 (J f) 112] (af 1)
 =Ω [ai m m,ak m (J f),ο (m<=274877906944),a d&&b (c d)] (rO [AV.Ψ [AV.sl 1 9 0 0 g (γ g),vB ε]] [AB.row η m 9 (J f) 112,AB.row ε g 9 (J (Y (e (c d)))) 112]):=by intros;kernel_rfl
def aqB(a:E Wh->κ)(b:E Wh->κ)(c:E Wh->E Wh)(m:O)(f:ω):ad θ (ext fm 129 (da [ε] (D9 a b c))) K 100 PN [.sl 0 9 0 0 m ζ] [.row η m 9 (J f) 112] (af 1)=Ω [ai m m,ak m (J f),ο (m<=274877906944),!(a (V (ξ (J f)) m)&&b (c (V (ξ (J f)) m)))] (rO [AV.Ψ [AV.v (dk ζ 0 0),vB η]] [AB.row η m 9 (J f) 112]):=by kernel_rfl
def aj_:au θ 72 (am bP (IT nA bv qe)):=by
 refine bY (az jz ajR) func72 rfl λf k a c=>?_
 unfold IT at a;split at a
 ·rename_i m g
  cases a;simp only[F]at c;obtain⟨d,h,e,_⟩:=c;have i:=aL h;refine⟨[.row η m 9 (J (ξ g)) 112],K,100,.cons (Ξ.row λj b=>aN d j b) .nil,dq _,?_⟩;show aC (ad θ (ext fm 129 (da [ε] (Ed aG bv bg qe))) K 100 PN [.sl 0 9 0 0 m ζ] [.row η m 9 (J (ξ g)) 112] (af 1)) _
  rw[aqJ];rw[nA]at e;exact ag (by simp only[F,ah,aa,h_,bw,cb,bo];exact⟨bA i,e⟩) (Φ ⟨_,rfl,rfl,.cons (Ξ.row λj b=>(aN d j b).symm) (ab.refl _)⟩)
 ·cases a
def aj5:au θ 72 (am bP (IL nA)):=by
 refine bY (az jz ajL) func72 rfl λf k a c=>?_
 unfold IL at a;split at a
 ·rename_i m g
  cases a;simp only[F]at c;obtain⟨d,h,e,_⟩:=c;have i:=aL h;refine⟨[.row η m 9 (J (ξ g)) 112],K,100,.cons (Ξ.row λj b=>aN d j b) .nil,dq _,?_⟩;show aC (ad θ (ext fm 129 (da [ε] (D9 aG bg qe))) K 100 PN [.sl 0 9 0 0 m ζ] [.row η m 9 (J (ξ g)) 112] (af 1)) _
  rw[aqB];rw[nA]at e;exact ag (by simp only[F,ah,aa,h_,bw,cb,bo];exact⟨bA i,e⟩) (Φ ⟨_,rfl,rfl,.cons (Ξ.row λj b=>(aN d j b).symm) .nil⟩)
 ·cases a
def Ke(md:Z->Z):E τ->χ (τ×E κ)
 |[.int .i64 n]=>γ (.int .i64 (md n),[])
 |_=>ζ
def Jm(a:(O->Z)->Z->O->Z):E SA->χ FR
 |[.v (.agg ⟨[.int .i64 b,.int .i64 c,.int .i64 d,.int .i64 e,.int .i64 f,.int .i64 g,.int .i64 h,.int .i64 i]⟩),.v (.int .i64 n)]=>γ {val:=.agg (fP (a (v8 b c d e f g h i) n)),ap:=[ο (n<=2^40)]}
 |_=>ζ
def KS(md:Z->Z)(a:(O->Z)->Z->O->Z)(b:(O->Z)->Z->(O->Z)->O->Z):aE:=ext (ext (ext g0 165 (aS (Ke md))) 164 (am [.val,.val] (Jm a))) 172 (aS (Ka b))
abbrev Bz:Ex->E O:=cx [0,1,4,5,6] [4,5] [4]
abbrev lK(m:O)(f:ω)(t:ae)(a:aQ):E AB:=[.row η m 9 (J f) t,.cells (fP λ_=>0) 75,.cells (fP a) 75]
abbrev CO(m:O)(n:Z)(i:O):E AV:=[.sl 0 9 0 0 m ζ,.v (ι n),.ptr 1 0 0 0,.ptr 2 0 0 0,.v (ι i)]
def amD(md:Z->Z)(h:(O->Z)->Z->O->Z)(b:(O->Z)->Z->(O->Z)->O->Z)(m:O)(f:ω)(t:ae)(a:aQ)(n:Z)(i:O):let j:=AB.cells [vI 0,vI 0,vI 0,vI 0,vI 0,vI 0,vI 0,vI 0] 75;let g:=(↑i:Z);let c:=(1:Z);let k:=ο (0+a5 g<m);let l:=AB.row η m 9 (J f) t;let o:=ο (g<(m:Z));let d:=(0+a5 g);let p:=(aj .i64 (n*f d 0));let e:=(w8 (h (v8 (f d 1) (f d 2) (f d 3) (f d 4) (f d 5) (f d 6) (f d 7) (f d 8)) (md p)));a0 θ (KS md h b) 100 K (a4 0 Pu) (aw 0 31 ((Bz .normal).zip (CO m n i))) (lK m f t a) (cJ 31 Bz 1)
 =bif ο (g<(m:Z))then Ω [o,k,o,k,ο (md p<=(1099511627776:Z))] (ao.out .normal [AV.sl 0 9 0 0 m ζ,vI n,AV.ptr 1 0 0 0,AV.ptr 2 0 0 0,vI (aj .i64 (g+c))] [l,j,AB.cells [vI (b (w8 a) c e 0),vI (b (w8 a) c e 1),vI (b (w8 a) c e 2),vI (b (w8 a) c e 3),vI (b (w8 a) c e 4),vI (b (w8 a) c e 5),vI (b (w8 a) c e 6),vI (b (w8 a) c e 7)] 75])else ao.out (Ex.exit 0) [AV.ptr 1 0 0 0,AV.ptr 2 0 0 0] [l,j,AB.cells [vI (a 0),vI (a 1),vI (a 2),vI (a 3),vI (a 4),vI (a 5),vI (a 6),vI (a 7)] 75]:=by intros;kernel_rfl
noncomputable abbrev LF(m:O)(f:ω)(t:ae)(n:Z)(b:aQ):O->χ Sum:=bJ 0 (bD 31 (Bz .normal) 1 (CO m n 0) (lK m f t λ_=>0) (λa=>a .normal (aw 0 31 [(4,.ptr 1 0 0 0),(5,.ptr 2 0 0 0)]) (lK m f t b)))
def aqg(m:O)(f:ω)(t:ae)(n:Z)(b:aQ):let a:=AB.cells [vI 0,vI 0,vI 0,vI 0,vI 0,vI 0,vI 0,vI 0] 75;let c:=AB.row η m 9 (J f) t;ad θ g0 (LF m f t n b) 100 Pu [.sl 0 9 0 0 m ζ,.v (ι n)] [.row η m 9 (J f) t] (af 1)
 =Ω [cw ([AV.sl 0 9 0 0 m ζ,vI n,AV.ptr 1 0 0 0,AV.ptr 2 0 0 0,vI 0]=CO m n 0/\ab [c,a,a] (lK m f t λ_=>(0:Z)))] (rO [AV.agg [vI (b 0),vI (b 1),vI (b 2),vI (b 3),vI (b 4),vI (b 5),vI (b 6),vI (b 7)]] [c]):=by intros;kernel_rfl
def Si:Ke (λn=>n%24)=Fe:=by
 funext l
 rfl
def QM:Jm (λa n=>gA a n.toNat)=IA:=by
 funext l
 rfl
def afQ:aK θ (KS (λn=>n%24) (λa n=>gA a n.toNat) lW):=by unfold KS;rw[Si,QM,Sc];exact az (az (az bt ML) Wc) MM
def eA(f:ω)(n:Z):O->O->Z
 |0=>λ_=>0
 |i+1=>lW (eA f n i) 1 (gA (v8 (f i 1) (f i 2) (f i 3) (f i 4) (f i 5) (f i 6) (f i 7) (f i 8)) (aj a7 (n*f i 0)%24).toNat)
def aoG(m:O)(f:ω)(t:ae)(n:Z)(g:m<=2^40):cp θ 1 (.block 0 (.loop (a4 0 Pu))) (bD 31 (Bz .normal) 1 (CO m n 0) (lK m f t λ_=>0) (λa=>a .normal (aw 0 31 [(4,.ptr 1 0 0 0),(5,.ptr 2 0 0 0)]) (lK m f t (eA f n m)))):=by
 refine dQ afQ (n:=100) (m:=1) (lv:=Bz) (λi=>CO m n i) (λi=>lK m f t (eA f n i)) (λ_=>True) m (λ_=>K) (du rfl rfl rfl) (aR _) trivial λa Q d i j e=>⟨cT _ _ _,?_⟩
 rw[amD];refine ay (λb=>?_) λb=>?_
 ·have b:=aL b
  have c:i<m:=by omega
  rw[cY,bF,bR (x:=(i:Z)+1) (by omega)];refine ag (by simp only[F,ah,aa,aB];omega) (Φ ⟨i+1,⟨rfl,c,trivial⟩,rfl,ab.refl _⟩)
 ·have b:=cE b
  have:i=m:=by omega
  subst this;refine Φ ⟨_,ab.refl _,?_⟩;rw[aP rfl];exact d
def IE(a:(O->O->Z)->Z->O->O->Z):E SA->χ FR
 |[.row m g,.v (.int .i64 n)]=>γ {val:=.agg (fP (a (ξ g) n m)),ap:=[ak m g,ο (m<=2^38)]}
 |_=>ζ
def ED(g:ω)(n:Z)(m:O):eA (ξ (J g)) n m=eA g n m:=by
 induction m with
 |zero=>rfl
 |succ m a=>rw[eA,a];rfl
def akE:au θ 105 (am dy (IE eA)):=by
 refine bY bt func105 rfl λe h a c=>?_
 unfold IE at a;split at a
 ·rename_i m g n
  cases a;simp only[F]at c;obtain⟨d,f,_⟩:=c;have i:=aL f;refine⟨[.row η m 9 (J (ξ g)) 112],LF m (ξ g) 112 n (eA (ξ g) n m),100,.cons (Ξ.row λj b=>aN d j b) .nil,cz (by kernel_rfl) (aoG m (ξ g) 112 n (by omega)),?_⟩;show aC (ad θ g0 (LF m (ξ g) 112 n (eA (ξ g) n m)) 100 Pu [.sl 0 9 0 0 m ζ,.v (ι n)] [.row η m 9 (J (ξ g)) 112] (af 1)) _
  rw[aqg];exact ag (by rw[F];exact⟨cg ⟨rfl,ab.refl _⟩,rfl⟩) (Φ ⟨_,rfl,rfl,.cons (Ξ.row λj b=>(aN d j b).symm) .nil⟩)
 ·cases a
def QC(i:(O->Z)->O->Z)(j:(O->Z)->κ):E SA->χ FR
 |[.v (.agg ⟨[.int .i64 a,.int .i64 b,.int .i64 c,.int .i64 d,.int .i64 e,.int .i64 f,.int .i64 g,.int .i64 h]⟩)]=>γ {val:=.Ψ [.agg (fP (i (v8 a b c d e f g h))),.v (.bool (j (v8 a b c d e f g h)))]}
 |_=>ζ
def aa1:QC sK (λv=>bz (bC v))=Iu:=by
 funext l
 rfl
def FK(a:(O->O->Z)->Z->O->O->Z)(b:(O->Z)->O->Z)(c:(O->Z)->κ):aE:=ext (ext (ext (ext g0 95 (am bP ui)) 103 (aS AL)) 105 (am dy (IE a))) 104 (am [.val] (QC b c))
def aqw(c:(O->O->Z)->Z->O->O->Z)(a:(O->Z)->O->Z)(e:(O->Z)->κ)(m:O)(f:ω)(t:ae)(n:Z):let g:=[AV.Ψ [AV.agg [vI 0,vI 0,vI 0,vI 0,vI 0,vI 0,vI 0,vI 0],vB η]];let d:=[AB.row η m 9 (J f) t];let h:=ak m λq=>J f (0+q);let i:=(ξ λq=>J f (0+q));let b:=(w8 (c i n m));ad θ (FK c a e) K 100 f52 [.sl 0 9 0 0 m ζ,.v (ι n)] [.row η m 9 (J f) t] (af 1)
 =Ω [Θ (0+m) m,h,ο (m<=549755813888)] (bif !aG (V i m)then rO g d else bif !aD n (0:Z) (23:Z)then rO g d else Ω [Θ (0+m) m,h,ο (m<=274877906944)] (rO [AV.Ψ [AV.agg [vI (a b 0),vI (a b 1),vI (a b 2),vI (a b 3),vI (a b 4),vI (a b 5),vI (a b 6),vI (a b 7)],AV.v (.bool (e b))]] d)):=by intros;kernel_rfl
def Sh(a:Z->κ):E τ->χ (τ×E κ)
 |[.int .i64 n]=>γ (.bool (a n),[])
 |_=>ζ
def Ej(a:E Wh->E Wh)(b:E Wh->κ):E SA->χ FR
 |[.row m g]=>γ {val:=.Ψ [.own 0 (a (V (ξ g) m)).length,.v (.bool (b (V (ξ g) m)))],new:=[.row ε (a (V (ξ g) m)).length 9 (J (Y (a (V (ξ g) m)))) 112],ap:=[ak m g,ο (m<=2^38)]}
 |_=>ζ
def KW(md:Z->Z)(a:(O->Z)->O->Z)(b:(O->Z)->Z->O->Z):aE:=ext (ext (ext g0 165 (aS (Ke md))) 163 (aS (E9 a))) 164 (am [.val,.val] (Jm b))
abbrev BG:Ex->E O:=cx [0,1,2,3,4,12,13] [12] [10,11]
abbrev CU(m:O)(sp tn la:Z)(mir:κ)(n i:O):E AV:=[.sl 0 9 0 0 m ζ,.v (ι sp),.v (ι tn),.v (ι la),.v (.bool mir),.own 1 n,.v (ι i)]
def amR(md:Z->Z)(o:(O->Z)->O->Z)(a:(O->Z)->Z->O->Z)(m:O)(f:ω)(t:ae)(sp tn la:Z)(mir:κ)(n:O)(h:ω)(i:O):let j:=(↑i:Z);let k:=ο (0+a5 j<m);let l:=AB.row η m 9 (J f) t;let g:=ο (j<(m:Z));let c:=(0+a5 j);let p:=[AV.sl 0 9 0 0 m ζ,vI sp,vI tn,vI la,AV.v (.bool mir),AV.own 1 (n+1),vI (aj .i64 (j+(1:Z)))];let d:=(v8 (f c 1) (f c 2) (f c 3) (f c 4) (f c 5) (f c 6) (f c 7) (f c 8));let r:=(aj .i64 (tn+aj .i64 (la*f c 0)));let s:=[g,k,g,k,ο (md r<=(1099511627776:Z)),Θ n n,Θ (n+1) 549755813888];let e:=(w8 (o d));let b:=(md r);a0 θ (KW md o a) 100 K (a4 0 PO) (aw 0 71 ((BG .normal).zip (CU m sp tn la mir n i))) (jE m f t n h) (cJ 71 BG 1)
 =bif ο (j<(m:Z))then Ω [g,k] (bif mir then Ω s (ao.out .normal p [l,AB.row ε (n+1) 9 (λq=>[ι (bif Δ q n then h q 0 else aj .i64 (sp*f c 0)),ι (bif Δ q n then h q 1 else a e b 0),ι (bif Δ q n then h q 2 else a e b 1),ι (bif Δ q n then h q 3 else a e b 2),ι (bif Δ q n then h q 4 else a e b 3),ι (bif Δ q n then h q 5 else a e b 4),ι (bif Δ q n then h q 6 else a e b 5),ι (bif Δ q n then h q 7 else a e b 6),ι (bif Δ q n then h q 8 else a e b 7)]) 112])else Ω s (ao.out .normal p [l,AB.row ε (n+1) 9 (λq=>[ι (bif Δ q n then h q 0 else aj .i64 (sp*f c 0)),ι (bif Δ q n then h q 1 else a d b 0),ι (bif Δ q n then h q 2 else a d b 1),ι (bif Δ q n then h q 3 else a d b 2),ι (bif Δ q n then h q 4 else a d b 3),ι (bif Δ q n then h q 5 else a d b 4),ι (bif Δ q n then h q 6 else a d b 5),ι (bif Δ q n then h q 7 else a d b 6),ι (bif Δ q n then h q 8 else a d b 7)]) 112]))else ao.out (Ex.exit 0) [AV.own 1 n] [l,AB.row ε n 9 (J h) 112]:=by intros;kernel_rfl
noncomputable abbrev LM(m:O)(f:ω)(t:ae)(sp tn la:Z)(mir:κ)(n:O)(h:ω):O->χ Sum:=bJ 0 (bD 71 (BG .normal) 1 (CU m sp tn la mir 0 0) (jE m f t 0 (Y [])) (λa=>a .normal (aw 0 71 [(12,.own 1 n)]) (jE m f t n h)))
def FO(a:E Wh->κ)(is:Z->κ)(c:E Wh->E Wh)(b:E Wh->κ):aE:=ext (ext (ext g0 95 (am bP (pM a))) 103 (aS (Sh is))) 96 (am bP (Ej c b))
def aqX(a:E Wh->κ)(is:Z->κ)(d:E Wh->E Wh)(b:E Wh->κ)(m:O)(f:ω)(t:ae)(sp tn la:Z)(mir:κ)(n:O)(h:ω):let e:=[AV.Ψ [AV.own 1 0,vB η]];let g:=(V (ξ (J h)) n);let i:=AB.row η m 9 (J f) t;let j:=(b_ (d g));let c:=[i,AB.row ε 0 9 (λ_=>[]) 112];ad θ (FO a is d b) (LM m f t sp tn la mir n h) 100 PO [.sl 0 9 0 0 m ζ,.v (ι sp),.v (ι tn),.v (ι la),.v (.bool mir)] [.row η m 9 (J f) t] (af 1)
 =Ω [Θ (0+m) m,ak m λq=>J f (0+q),ο (m<=549755813888)] (bif !a (V (ξ λq=>J f (0+q)) m)then rO e c else bif !is tn then rO e c else bif !is la then rO e c else Ω [cw ([AV.sl 0 9 0 0 m ζ,vI sp,vI tn,vI la,AV.v (.bool mir),AV.own 1 0,vI 0]=CU m sp tn la mir 0 0/\ab c (jE m f t 0 (Y []))),Θ n n,ak n (J h),ο (n<=274877906944)] (rO [AV.Ψ [AV.own 1 j,AV.v (.bool (b g))]] [i,AB.row ε j 9 (J (Y (d g))) 112])):=by intros;kernel_rfl
def ae2:Sh (λn=>aD n 0 23)=AL:=by
 funext l
 rfl
def Ek:Ej bv bg=Iz:=by
 funext l
 rfl
def af6:aK θ (KW (λn=>n%24) jl (λa n=>gA a n.toNat)):=by
 have e:E9 jl=Ff:=by funext l;rfl
 unfold KW;rw[Si,QM,e];exact az (az (az bt ML) VT) Wc
def af7:aK θ (FO aG (λn=>aD n 0 23) bv bg):=by unfold FO;rw[ae2,Ek,so];exact az (az (az bt yj) MK) Gz
def dZ(sp tn la:Z)(mir:κ)(w:Wh):Wh:=⟨aj a7 (sp*w.s),bC (gA (bif mir then w8 (jl w.r.f)else w.r.f) ((aj a7 (tn+aj a7 (la*w.s)))%24).toNat)⟩
def aoO(m:O)(f:ω)(t:ae)(sp tn la:Z)(mir:κ)(h:m<=2^38):cp θ 1 (.block 0 (.loop (a4 0 PO))) (bD 71 (BG .normal) 1 (CU m sp tn la mir 0 0) (jE m f t 0 (Y [])) (λa=>a .normal (aw 0 71 [(12,.own 1 m)]) (jE m f t m (Y ((V f m).map (dZ sp tn la mir)))))):=by
 refine dQ af6 (n:=100) (m:=1) (lv:=BG) (λi=>CU m sp tn la mir i i) (λi=>jE m f t i (Y ((V f i).map (dZ sp tn la mir)))) (λ_=>True) m (λ_=>K) (du rfl rfl rfl) (aR _) trivial λa Q e i k g=>⟨cT _ _ _,?_⟩
 rw[amR];refine ay (λb=>?_) λb=>?_
 ·have b:=aL b
  have c:i<m:=by omega
  rw[cY,bF,bR (x:=(i:Z)+1) (by omega)];refine ag (by simp only[F,ah,aa,aB];omega) ?_;cases mir with
  |true=>
   refine ag (by simp only[F,ah,aa,aB,aT];omega) (Φ ⟨i+1,⟨rfl,c,trivial⟩,rfl,?_⟩);show ab _ (jE m f t (i+1) (Y ((V f (i+1)).map (dZ sp tn la ε))))
   rw[gw,iN];refine .cons (Ξ.refl _) (.cons (Ξ.row λq d=>?_) .nil);exact nT _ (dZ sp tn la ε (bm (f i))) i (by rw[cC,ch]) q d
  |false=>
   refine ag (by simp only[F,ah,aa,aB,aT];omega) (Φ ⟨i+1,⟨rfl,c,trivial⟩,rfl,?_⟩);show ab _ (jE m f t (i+1) (Y ((V f (i+1)).map (dZ sp tn la η))))
   rw[gw,iN];refine .cons (Ξ.refl _) (.cons (Ξ.row λq d=>?_) .nil);exact nT _ (dZ sp tn la η (bm (f i))) i (by rw[cC,ch]) q d
 ·have b:=cE b
  have:i=m:=by omega
  subst this;refine Φ ⟨_,ab.refl _,?_⟩;rw[aP rfl];exact e
def iH(tn la:Z)(L:E Wh):κ:=aG L&&(aD tn 0 23&&aD la 0 23)
def gS(sp tn la:Z)(mir:κ)(L:E Wh):κ:=iH tn la L&&bg (L.map (dZ sp tn la mir))
def fQ(sp tn la:Z)(mir:κ)(L:E Wh):E Wh:=bif iH tn la L then bv (L.map (dZ sp tn la mir))else[]
def IW(f:Z->Z->Z->κ->E Wh->κ)(e:Z->Z->Z->κ->E Wh->E Wh):E SA->χ FR
 |[.row m g,.v (.int .i64 b),.v (.int .i64 c),.v (.int .i64 d),.v (.bool a)]=>γ {val:=.Ψ [.own 0 (e b c d a (V (ξ g) m)).length,.v (.bool (f b c d a (V (ξ g) m)))],new:=[.row ε (e b c d a (V (ξ g) m)).length 9 (J (Y (e b c d a (V (ξ g) m)))) 112],ap:=[ak m g,ο (m<=2^38)]}
 |_=>ζ
def Mj:E Md:=[.rd 9 112,.val,.val,.val,.val]
def akd:au θ 88 (am Mj (IW gS fQ)):=by
 refine bY af7 func88 rfl λu A o r=>?_
 unfold IW at o;split at o
 ·rename_i m g f c d a
  cases o;simp only[F]at r;obtain⟨s,v,_⟩:=r;have t:=aL v;refine⟨[.row η m 9 (J (ξ g)) 112],LM m (ξ g) 112 f c d a m (Y ((V (ξ g) m).map (dZ f c d a))),100,.cons (Ξ.row λj h=>aN s j h) .nil,cz (by kernel_rfl) (aoO m (ξ g) 112 f c d a t),?_⟩;show aC (ad θ (FO aG (λn=>aD n 0 23) bv bg) (LM m (ξ g) 112 f c d a m (Y ((V (ξ g) m).map (dZ f c d a)))) 100 PO [.sl 0 9 0 0 m ζ,.v (ι f),.v (ι c),.v (ι d),.v (.bool a)] [.row η m 9 (J (ξ g)) 112] (af 1)) _
  rw[aqX,bV,cb,fo ((V (ξ g) m).map (dZ f c d a)) m (by rw[cC,ch])];have k:∀(D:E Wh)(b:κ)(G:O->E τ),gS f c d a (V (ξ g) m)=b->fQ f c d a (V (ξ g) m)=D->(∀j,j<D.length->G j=J (Y D) j)->aC (.out .ret [.Ψ [.own 1 D.length,.v (.bool b)]] [.row η m 9 (J (ξ g)) 112,.row ε D.length 9 G 112])
    (dV (bI Mj [.row m g,.v (ι f),.v (ι c),.v (ι d),.v (.bool a)] []) {val:=.Ψ [.own 0 (fQ f c d a (V (ξ g) m)).length,.v (.bool (gS f c d a (V (ξ g) m)))],new:=[.row ε (fQ f c d a (V (ξ g) m)).length 9 (J (Y (fQ f c d a (V (ξ g) m)))) 112],ap:=[ak m g,ο (m<=2^38)]}):=by
   rintro D b G rfl rfl z;exact Φ ⟨_,rfl,rfl,.cons (Ξ.row λj h=>(aN s j h).symm) (.cons (Ξ.row z) .nil)⟩
  have i:iH c d (V (ξ g) m)=η->aC (.out .ret [.Ψ [.own 1 0,.v (.bool η)]] [.row η m 9 (J (ξ g)) 112,.row ε 0 9 (λ_=>[]) 112]) _:=λe=>k [] η _ (by rw[gS,e];rfl) (by rw[fQ,e];rfl) λj h=>aO h (cN _)
  refine ag (by simp only[F,ah,aa,aB,aT,bw,bo];omega) ?_;cases l:aG (V (ξ g) m)with
  |false=>exact eS rfl (i (by rw[iH,l];rfl))
  |true=>
   refine cL rfl ?_;cases p:aD c 0 23 with
   |false=>exact eS rfl (i (by rw[iH,l,p];rfl))
   |true=>
    refine cL rfl ?_;cases q:aD d 0 23 with
    |false=>exact eS rfl (i (by rw[iH,l,p,q];rfl))
    |true=>refine cL rfl (ag ?_ (k _ _ _ (by rw[gS,iH,l,p,q];rfl) (by rw[fQ,iH,l,p,q];rfl) λj h=>rfl));simp only[F,ah,aa,bw];exact⟨cg ⟨rfl,.cons (Ξ.refl _) (.cons (Ξ.row λj h=>aO h (cN _)) .nil)⟩,by simp,trivial,bA t⟩
 ·cases o
def kB:E Md:=[.rd 9 112,.rd 9 112]
def p_{c d:Wh->Wh}{L:E Wh}(h:∀w∈L,c w=d w):L.map c=L.map d:=List.map_congr_left h
def Oc{L:E Wh}(h:bg L=η):bv L=[]:=by
 unfold bg at h;unfold bv;cases e:im L with
 |none=>rfl
 |some T=>rw[e]at h;cases h
def apE{L:E Wh}(h:bg L=ε):(bv L).length<=12:=by
 unfold bg at h;unfold bv;cases e:im L with
 |none=>rw[e]at h;cases h
 |some T=>
  unfold im at e;split at e
  ·split at e
   ·rename_i a
    cases e;rw[gc,aM]at a;exact aL a.1
   ·cases e
  ·cases e
def Ay{sp tn la:Z}{mir:κ}{L M:E Wh}(a:iH tn la L=ε)(hM:L.map (dZ sp tn la mir)=M)(b:bg M=ε):fQ sp tn la mir L=bv M/\gS sp tn la mir L=ε:=by
 subst hM;refine⟨?_,?_⟩
 ·rw[fQ,a];rfl
 ·rw[gS,a,b];rfl
def Ax{sp tn la:Z}{mir:κ}{L:E Wh}(h:iH tn la L=ε->bg (L.map (dZ sp tn la mir))=η):fQ sp tn la mir L=[]/\gS sp tn la mir L=η:=by
 cases a:iH tn la L with
 |false=>exact⟨by rw[fQ,a];rfl,by rw[gS,a];rfl⟩
 |true=>exact⟨by rw[fQ,a];exact Oc (h a),by rw[gS,a,h a];rfl⟩
def asY(x:Z):aj a7 (aj a7 x)=aj a7 x:=Oo x
def RA(w:Wh):kX w=dZ (-1) 0 0 ε w:=by
 have a:(-1:Z)*w.s=0-w.s:=by omega
 have b:(aj a7 ((0:Z)+aj a7 (0*w.s))%24).toNat=0:=by rw[OY];rfl
 rw[kX,dZ,a,b];rfl
def RB{x:Z}(a:aD x 0 23=ε){w:Wh}(d: -1000<=w.s/\w.s<=1000):kY x w=dZ 1 x 0 η w:=by
 have a:=b9.1 a;have b:aj a7 (1*w.s)=w.s:=by rw[zu,bR (by omega)]
 have c:aj a7 (x+aj a7 (0*w.s))=x:=by rw[OY,bR (x:=0) (by omega),Int.add_zero,bR (by omega)]
 rw[kY,dZ,b,c];rfl
def Rz{x:Z}(a:aD x 0 23=ε){w:Wh}(d: -1000<=w.s/\w.s<=1000):kW x w=dZ 1 0 x η w:=by
 have a:=b9.1 a;have b:aj a7 (1*w.s)=w.s:=by rw[zu,bR (by omega)]
 have c:aj a7 (0+aj a7 (x*w.s))=aj a7 (x*w.s):=by rw[ZN,asY]
 rw[kW,dZ,b,c];rfl
def GK:∀(is:E (χ O))(bs:E AB),(∀b∈bs,b.wr=η)->fI is bs=[]
 |[],[],_=>rfl
 |[],_::_,_=>by simp[fI]
 |i::is,[],_=>by cases i<;>simp[fI]
 |none::is,b::bs,h=>by simp only[fI];exact GK is bs λx a=>h x (by simp[a])
 |some i::is,b::bs,h=>by
  have c:=GK is bs λx a=>h x (by simp[a])
  have d:=h b (by simp);cases b with
  |row rw n s g t=>
   cases rw with
   |true=>cases d
   |false=>simp only[fI];exact c
  |cells e t=>cases d
  |gone=>simp only[fI];exact c
def Et:∀{mds:E Md}{sas:E SA}{ps:E (O->E τ)},n5 mds=η->∀b∈bI mds sas ps,b.wr=η
 |[],[],ps,_,b,a=>by simp[bI]at a
 | .val::c,.v x::r,ps,h,b,a=>Et (mds:=c) (sas:=r) (ps:=ps) h b (by simpa only[bI]using a)
 | .rd s t::c,.row m g::r,ps,h,b,a=>by
  simp only[bI,dw]at a;rcases a with rfl|a
  ·rfl
  ·exact Et (mds:=c) (sas:=r) (ps:=ps) h b a
 | .wr s t::c,_,ps,h,b,a=>by cases h
 |[],_::_,ps,_,b,a=>by simp[bI]at a
 | .val::c,[],ps,_,b,a=>by simp[bI]at a
 | .val::c,.row .. ::_,ps,_,b,a=>by simp[bI]at a
 | .val::c,.own .. ::_,ps,_,b,a=>by simp[bI]at a
 | .rd .. ::c,[],ps,_,b,a=>by simp[bI]at a
 | .rd .. ::c,.v _::_,ps,_,b,a=>by simp[bI]at a
 | .rd .. ::c,.own .. ::_,ps,_,b,a=>by simp[bI]at a
structure UR where
 b:κ
 T:E Wh
 ap:E κ
def rS(mds:E Md)(U:E SA->χ UR):Spec:=λb H a=>
 match rP H mds b with
 |some c=>match U (c.map (·.sa))with
  |some u=>γ {val:=.Ψ [.sl a 9 0 0 u.T.length (γ u.T.length),.v (.bool u.b)],rd:=(d_ mds c).filterMap id,put:=[],new:=[.row η u.T.length 9 (J (Y u.T)) 112],ap:=c.flatMap (·.ob)++u.ap}
  |none=>ζ
 |none=>ζ
def NT{P:aF}{f:bq}{mds:E Md}{T W:E SA->χ FR}{U:E SA->χ UR}(X:n5 mds=η)(hY:au P f (am mds T))(hN:au P f (am mds W))(h:∀sas u,U sas=γ u->aJ u.ap=ε->ai (bI mds sas []).length (bK mds sas).length=ε/\((u.b=ε/\∃ob,T sas=γ {val:=js u.T,new:=fR u.T,ap:=ob}/\aJ ob=ε)\/(u.b=η/\u.T=[]/\∃ob,W sas=γ {val:=eQ,ap:=ob}/\aJ ob=ε))):au P f (rS mds U):=by
 refine⟨hY.1,λq H c δ ν r w y ho hv hr D n hsep s=>?_⟩;unfold rS at y;split at y
 case h_2=>cases y
 rename_i z G;split at y
 case h_2=>cases y
 rename_i u hu;simp only[ar]at y;subst y;have A:aJ (z.flatMap (·.ob))=ε/\aJ u.ap=ε:=by simpa[aJ,gC]using ho
 obtain⟨C,hc⟩:=h _ _ hu A.2;have t:fI (d_ mds z) (bI mds (z.map (·.sa)) [])=[]:=GK _ _ λb I=>Et X b I
 rcases hc with⟨I,ob,L,M⟩|⟨I,hT,ob,L,M⟩
 ·have B:am mds T q H c=γ {val:=.Ψ [.sl c 9 0 0 u.T.length (γ u.T.length),.v (.bool ε)],rd:=(d_ mds z).filterMap id,put:=[],new:=fR u.T,ap:=z.flatMap (·.ob)++ob}:=by
   unfold am;rw[G];simp only[L];show cond _ _ _=_
   rw[X,C,t];rfl
  refine(hY.2 q H c _ ν r w B (by simpa[aJ,gC]using And.intro A.1 M) hv hr D n (λi o j b b' hp=>by cases hp) (s.call λx N=>by first|exact N|cases N)).mono ?_;rintro e w' ⟨v,m,rfl,d⟩;refine⟨v,m,rfl,d.le,d.b6,by rw[I];exact d.val,λi b C=>(by cases C),λj b g=>?_,d.os,d.tape,d.output,d.size,d.block,d.fresh,d.apart⟩
  match j with
  |0=>
   simp only[kn,ar]at g;subst g;have:=d.new 0 _ rfl;rcases this with⟨Q,_,_⟩|⟨k,l,t',fz,Q,h2,_,h4,h5⟩
   ·cases Q
   ·exact .inr ⟨k,l,t',fz,Q,h2,λh=>(by cases h),h4,h5⟩
  |j+1=>simp at g
 ·have B:am mds W q H c=γ {val:=eQ,rd:=(d_ mds z).filterMap id,put:=[],new:=[],ap:=z.flatMap (·.ob)++ob}:=by
   unfold am;rw[G];simp only[L];show cond _ _ _=_
   rw[X,C,t];rfl
  refine(hN.2 q H c _ ν r w B (by simpa[aJ,gC]using And.intro A.1 M) hv hr D (λj g=>aO g (cN _)) (λi o j b b' hp=>by cases hp) (s.call λx N=>by first|exact N|cases N)).mono ?_;rintro e w' ⟨v,m,rfl,d⟩;have p:m c=ζ:=by
   have h0:ν c=ζ:=n 0 (Nat.zero_lt_one);cases S:m c with
   |none=>rfl
   |some b=>have:=d.b6 c h0 (by rw[S];simp);simp at this
  have hv0:VR m (.Ψ [.sl c 9 0 0 0 (γ 0),.v (.bool η)]) v:=by
   have:=d.val;simp only[VR]at this⊢;obtain⟨l,L,M⟩:=this
   match l,M with
   |[a,b],⟨ha,hbb,_⟩=>exact⟨[a,b],L,⟨ζ,0,ha,λc' hc'=>by simpa using hc',aR _,λhc=>aO hc (nF 0)⟩,hbb,trivial⟩
  refine⟨v,m,rfl,d.le,λi Q h2=>?_,by rw[I,hT];exact hv0,λi b C=>(by cases C),λj b g=>?_,d.os,d.tape,d.output,d.size,d.block,λj b g S=>?_,λj j' b b' hne g R=>?_⟩
  ·have:=d.b6 i Q h2
   simp at this;omega
  ·match j with
   |0=>simp only[kn,ar]at g;subst g;rw[hT];exact .inl ⟨rfl,rfl,p⟩
   |j+1=>simp at g
  ·have g:j<1:=g
   have:j=0:=by omega
   subst this;rw[iu,p]at S;cases S
  ·have g:j<1:=g
   have R:j'<1:=R;omega
def yT(x:Z)(L:E Wh):κ:=gS 1 x 0 η L
def tT(x:Z)(L:E Wh):E Wh:=fQ 1 x 0 η L
def yL(x:Z)(L:E Wh):κ:=gS 1 0 x η L
def tL(x:Z)(L:E Wh):E Wh:=fQ 1 0 x η L
def Er(a:E Wh->κ)(tl:E Wh->E Wh):E SA->χ UR
 |[.row m g]=>γ ⟨a (V (ξ g) m),tl (V (ξ g) m),[ak m g,ο (m<=2^38)]⟩
 |_=>ζ
def Gn(L:E Wh):ve L=L:=by
 show L.map jZ=L
 rw[show jZ=id from rfl,List.map_id]
def yI(L:E Wh):κ:=aG L&&bg L
def tI(L:E Wh):E Wh:=bif yI L then bv L else[]
def MG:au θ 139 (rS bP (Er yI tI)):=by
 refine NT rfl VO VN λh u a c=>?_
 unfold Er at a;split at a
 ·rename_i m g
  cases a;simp only[F]at c;obtain⟨d,e,_⟩:=c;refine⟨rfl,?_⟩;have f:mG (V (ξ g) m)=yI (V (ξ g) m):=by unfold mG yI;rw[show(V (ξ g) m).map jZ=V (ξ g) m from Gn _]
  cases b:yI (V (ξ g) m)with
  |true=>
   left;refine⟨rfl,[ak m g,ο (m<=2^38),mG (V (ξ g) m)],?_,?_⟩
   ·show IU mG bv ve [.row m g]=γ {val:=js (tI (V (ξ g) m)),new:=fR (tI (V (ξ g) m)),ap:=[ak m g,ο (m<=2^38),mG (V (ξ g) m)]}
    rw[tI,b,aZ];show γ _=γ _
    rw[Gn]
   ·simp only[F,ah,aa]
    exact⟨d,e,f.trans b⟩
  |false=>right;refine⟨rfl,by show tI (V (ξ g) m)=[];rw[tI,b];rfl,[ak m g,ο (m<=2^38),!mG (V (ξ g) m)],rfl,?_⟩;simp only[F,ah,aa];exact⟨d,e,by rw[f,b];rfl⟩
 ·cases a
def Rx{w:Wh}:kU w=dZ (-1) 0 0 η w:=by
 have a:(-1:Z)*w.s=0-w.s:=by omega
 have b:(aj a7 ((0:Z)+aj a7 (0*w.s))%24).toNat=0:=by rw[OY];rfl
 rw[kU,dZ,a,b];rfl
def yB(L:E Wh):κ:=gS (-1) 0 0 η L
def tB(L:E Wh):E Wh:=fQ (-1) 0 0 η L
def yM(L:E Wh):κ:=gS (-1) 0 0 ε L
def tM(L:E Wh):E Wh:=fQ (-1) 0 0 ε L
def FI(a:(O->Z)->κ)(mul:(O->Z)->(O->Z)->O->Z):aE:=ext (ext g0 145 (aS (m2 a))) 200 (aS (q2 mul))
def aqm(c:(O->Z)->κ)(mul:(O->Z)->(O->Z)->O->Z)(a b:aQ):let d:=[AV.Ψ [AV.agg [vI 0,vI 0,vI 0,vI 0,vI 0,vI 0,vI 0,vI 0],vB η]];ad θ (FI c mul) K 100 f126 [.v (dn a),.v (dn b)] [] (af 0)
 =bif !c (w8 a)then rO d []else bif !c (w8 b)then rO d []else bif !c (w8 (mul (w8 a) (w8 b)))then rO d []else rO [AV.Ψ [AV.agg [vI (mul (w8 a) (w8 b) 0),vI (mul (w8 a) (w8 b) 1),vI (mul (w8 a) (w8 b) 2),vI (mul (w8 a) (w8 b) 3),vI (mul (w8 a) (w8 b) 4),vI (mul (w8 a) (w8 b) 5),vI (mul (w8 a) (w8 b) 6),vI (mul (w8 a) (w8 b) 7)],vB ε]] []:=by intros;kernel_rfl
def FH(a:(O->Z)->κ)(mul:(O->Z)->(O->Z)->O->Z):aE:=ext (ext g0 106 (aS (m2 a))) 169 (aS (q2 mul))
def aqn(c:(O->Z)->κ)(mul:(O->Z)->(O->Z)->O->Z)(a b:aQ):let d:=[AV.Ψ [AV.agg [vI 0,vI 0,vI 0,vI 0,vI 0,vI 0,vI 0,vI 0],vB η]];ad θ (FH c mul) K 100 f97 [.v (dn a),.v (dn b)] [] (af 0)
 =bif !c (w8 a)then rO d []else bif !c (w8 b)then rO d []else bif !c (w8 (mul (w8 a) (w8 b)))then rO d []else rO [AV.Ψ [AV.agg [vI (mul (w8 a) (w8 b) 0),vI (mul (w8 a) (w8 b) 1),vI (mul (w8 a) (w8 b) 2),vI (mul (w8 a) (w8 b) 3),vI (mul (w8 a) (w8 b) 4),vI (mul (w8 a) (w8 b) 5),vI (mul (w8 a) (w8 b) 6),vI (mul (w8 a) (w8 b) 7)],vB ε]] []:=by intros;kernel_rfl
def wI(q:(O->Z)->(O->Z)->O->Z)(r:(O->Z)->(O->Z)->κ):E SA->χ FR
 |[.v (.agg ⟨[.int .i64 a,.int .i64 b,.int .i64 c,.int .i64 d,.int .i64 e,.int .i64 f,.int .i64 g,.int .i64 h]⟩),.v (.agg ⟨[.int .i64 i,.int .i64 j,.int .i64 k,.int .i64 l,.int .i64 m,.int .i64 n,.int .i64 o,.int .i64 p]⟩)]=>γ {val:=.Ψ [.agg (fP (q (v8 a b c d e f g h) (v8 i j k l m n o p))),.v (.bool (r (v8 a b c d e f g h) (v8 i j k l m n o p)))]}
 |_=>ζ
def FZ(a:(O->Z)->(O->Z)->O->Z)(b:(O->Z)->(O->Z)->κ):aE:=ext g0 126 (am [.val,.val] (wI a b))
abbrev x_:Ex->E O:=cx [1,6,8,22,23,24,28,29,30] [1,6,22,23,24] [4,5]
abbrev y8(m n k i j:O):E AV:=[.sl 1 9 0 0 n ζ,.own 2 k,.ptr 3 0 0 0,.sl 0 9 0 0 m ζ,.v (ι m),.v (ι i),.sl 1 9 0 0 n ζ,.v (ι n),.v (ι j)]
abbrev ff(m:O)(f:ω)(n:O)(g:ω)(k:O)(h:ω):E AB:=[.row η m 9 (J f) 112,.row η n 9 (J g) 112,.row ε k 9 (J h) 112]
abbrev uY(m:O)(f:ω)(n:O)(g:ω)(k:O)(h:ω)(x:aQ):E AB:=[.row η m 9 (J f) 112,.row η n 9 (J g) 112,.row ε k 9 (J h) 112,.cells [.v (ι (x 0)),.v (ι (x 1)),.v (ι (x 2)),.v (ι (x 3)),.v (ι (x 4)),.v (ι (x 5)),.v (ι (x 6)),.v (ι (x 7)),.v (ι (x 8))] 112]
abbrev iW(m:O)(f:ω)(n:O)(g:ω):E AB:=[.row η m 9 (J f) 112,.row η n 9 (J g) 112]
def ank(a:(O->Z)->(O->Z)->O->Z)(s:(O->Z)->(O->Z)->κ)(m:O)(f:ω)(n:O)(g:ω)(k:O)(h:ω)(x:aQ)(i j:O):let b:=(v8 (x 1) (x 2) (x 3) (x 4) (x 5) (x 6) (x 7) (x 8));let l:=AB.row η m 9 (J f) 112;let o:=AB.row η n 9 (J g) 112;let e:=(↑j:Z);let p:=AV.sl 1 9 0 0 n ζ;let r:=(↑n:Z);let t:=AV.sl 0 9 0 0 m ζ;let c:=(0+a5 e);let d:=(v8 (g c 1) (g c 2) (g c 3) (g c 4) (g c 5) (g c 6) (g c 7) (g c 8));a0 θ (FZ a s) 100 K (a4 2 mP) (aw 0 60 ((x_ .normal).zip (y8 m n k i j))) (uY m f n g k h x) (cJ 60 x_ 2)
 =bif ο (e<r)then Ω [ο (e<r),ο (0+a5 e<n)] (bif !s b d then rO [AV.v (dk ζ 0 0),vB η] [l,o]else Ω [Θ k k,Θ (k+1) 549755813888] (ao.out .normal [p,AV.own 2 (k+1),AV.ptr 3 0 0 0,t,vI (m:Z),vI (↑i:Z),p,vI r,vI (aj .i64 (e+(1:Z)))] [l,o,AB.row ε (k+1) 9 (λq=>[ι (bif Δ q k then h q 0 else aj .i64 (x 0+g c 0)),ι (bif Δ q k then h q 1 else a b d 0),ι (bif Δ q k then h q 2 else a b d 1),ι (bif Δ q k then h q 3 else a b d 2),ι (bif Δ q k then h q 4 else a b d 3),ι (bif Δ q k then h q 5 else a b d 4),ι (bif Δ q k then h q 6 else a b d 5),ι (bif Δ q k then h q 7 else a b d 6),ι (bif Δ q k then h q 8 else a b d 7)]) 112,AB.cells [vI (x 0),vI (x 1),vI (x 2),vI (x 3),vI (x 4),vI (x 5),vI (x 6),vI (x 7),vI (x 8)] 112]))else ao.out (Ex.exit 2) [p,AV.own 2 k,t,vI (m:Z),vI (↑i:Z)] [l,o,AB.row ε k 9 (J h) 112]:=by intros;kernel_rfl
abbrev va:Ex->E O:=cx [1,6,22,23,24] [6] [4,5]
abbrev pq(m n k i:O):E AV:=[.sl 1 9 0 0 n ζ,.own 2 k,.sl 0 9 0 0 m ζ,.v (ι m),.v (ι i)]
noncomputable abbrev US(m:O)(f:ω)(n:O)(g:ω)(k:O)(h:ω)(x:aQ)(i:O)(c:κ)(k2:O)(b:ω):O->χ Sum:=bJ 2 (bD 60 (x_ .normal) 2 (y8 m n k i 0) (uY m f n g k h x) (λa=>cond c (a .normal (aw 0 60 ([1,6,22,23,24].zip (pq m n k2 i))) (ff m f n g k2 b)) (a .ret (aw 0 60 [(4,.v (.slice ζ 0 0)),(5,.v (.bool η))]) (iW m f n g))))
def ani(r:(O->Z)->(O->Z)->O->Z)(s:(O->Z)->(O->Z)->κ)(m:O)(f:ω)(n:O)(g:ω)(k:O)(h:ω)(i:O)(c:κ)(k2:O)(o:ω):let d:=AB.row η n 9 (J g) 112;let e:=AB.row η m 9 (J f) 112;let b:=(↑i:Z);let l:=AV.sl 1 9 0 0 n ζ;let p:=AB.row ε k 9 (J h) 112;let j:=(m:Z);let q:=AV.sl 0 9 0 0 m ζ;let a:=(0+a5 b);a0 θ (FZ r s) 100 (US m f n g k h (f i) i c k2 o) (a4 0 mP) (aw 0 60 ((va .normal).zip (pq m n k i))) (ff m f n g k h) (cJ 60 va 2)
 =bif ο (b<j)then Ω [ο (b<j),ο (0+a5 b<m),cw ([l,AV.own 2 k,AV.ptr 3 0 0 0,q,vI j,vI b,l,vI (↑n:Z),vI 0]=y8 m n k i 0/\ab [e,d,p,AB.cells [vI (f a 0),vI (f a 1),vI (f a 2),vI (f a 3),vI (f a 4),vI (f a 5),vI (f a 6),vI (f a 7),vI (f a 8)] 112] (uY m f n g k h (f i)))] (bif c then ao.out .normal [l,AV.own 2 k2,q,vI j,vI (aj .i64 (b+(1:Z)))] [e,d,AB.row ε k2 9 (J o) 112]else rO [AV.v (dk ζ 0 0),vB η] [e,d])else ao.out (Ex.exit 0) [AV.own 2 k] [e,d,p]:=by intros;kernel_rfl
def anj(a:(O->Z)->(O->Z)->O->Z)(b:(O->Z)->(O->Z)->κ)(m:O)(f:ω)(n:O)(g:ω)(k:O)(h:ω)(i:O):a0 θ (FZ a b) 100 (bJ 2 ej) (a4 0 mP) (aw 0 60 ((va .normal).zip (pq m n k i))) (ff m f n g k h) (cJ 60 va 2)=bif ο ((↑i:Z)<(m:Z))then Ω [ο ((↑i:Z)<(m:Z)),ο (0+a5 (↑i:Z)<m)] ao.err else ao.out (Ex.exit 0) [AV.own 2 k] [AB.row η m 9 (J f) 112,AB.row η n 9 (J g) 112,AB.row ε k 9 (J h) 112]:=by kernel_rfl
noncomputable abbrev Bp(m:O)(f:ω)(n:O)(g:ω)(c:κ)(k:O)(h:ω):O->χ Sum:=bJ 0 (bD 60 (va .normal) 2 (pq m n 0 0) (ff m f n g 0 (Y [])) (λa=>cond c (a .normal (aw 0 60 [(6,.own 2 k)]) (ff m f n g k h)) (a .ret (aw 0 60 [(4,.v (.slice ζ 0 0)),(5,.v (.bool η))]) (iW m f n g))))
def ar5(a:E Wh->κ)(i:E Wh->E Wh)(b d:E Wh->κ)(m:O)(f:ω)(n:O)(g:ω)(c:κ)(k:O)(h:ω):let j:=[AV.Ψ [AV.v (dk ζ 0 0),vB η]];let e:=(V (ξ (J h)) k);let l:=AB.row η m 9 (J f) 112;let o:=AB.row η n 9 (J g) 112;let p:=(b_ (i e));let r:=[l,o];ad θ (kA a i b d) (Bp m f n g c k h) 100 mP [.sl 0 9 0 0 m ζ,.sl 1 9 0 0 n ζ] (iW m f n g) (af 2)
 =Ω [Θ (0+m) m,ak m λq=>J f (0+q),ο (m<=549755813888)] (bif !a (V (ξ λq=>J f (0+q)) m)then rO j r else Ω [Θ (0+n) n,ak n λq=>J g (0+q),ο (n<=549755813888)] (bif !a (V (ξ λq=>J g (0+q)) n)then rO j r else Ω [cw ([AV.sl 1 9 0 0 n ζ,AV.own 2 0,AV.sl 0 9 0 0 m ζ,vI (m:Z),vI 0]=pq m n 0 0/\ab [l,o,AB.row ε 0 9 (λ_=>[]) 112] (ff m f n g 0 (Y [])))] (bif c then Ω [Θ k k,ak k (J h),ο (k<=274877906944),d e,b e] (rO [AV.Ψ [AV.sl 2 9 0 0 p (γ p),vB ε]] [l,o,AB.row ε p 9 (J (Y (i e))) 112])else rO j r))):=by intros;kernel_rfl
def ar2(a:E Wh->κ)(b d:E Wh->κ)(m:O)(f:ω)(n:O)(g:ω)(c:κ)(k:O)(h:ω):let e:=[AV.Ψ [AV.v (dk ζ 0 0),vB η]];let j:=AB.row η n 9 (J g) 112;let l:=AB.row η m 9 (J f) 112;let o:=(V (ξ (J h)) k);let i:=[l,j];ad θ (fx a b d) (Bp m f n g c k h) 100 mP [.sl 0 9 0 0 m ζ,.sl 1 9 0 0 n ζ] (iW m f n g) (af 2)
 =Ω [Θ (0+m) m,ak m λq=>J f (0+q),ο (m<=549755813888)] (bif !a (V (ξ λq=>J f (0+q)) m)then rO e i else Ω [Θ (0+n) n,ak n λq=>J g (0+q),ο (n<=549755813888)] (bif !a (V (ξ λq=>J g (0+q)) n)then rO e i else Ω [cw ([AV.sl 1 9 0 0 n ζ,AV.own 2 0,AV.sl 0 9 0 0 m ζ,vI (m:Z),vI 0]=pq m n 0 0/\ab [l,j,AB.row ε 0 9 (λ_=>[]) 112] (ff m f n g 0 (Y [])))] (bif c then Ω [Θ k k,ak k (J h),ο (k<=274877906944),d o,!b o] (rO e i)else rO e i))):=by intros;kernel_rfl
def FV(a:(O->Z)->(O->Z)->O->Z)(b:(O->Z)->(O->Z)->κ):aE:=ext g0 97 (am [.val,.val] (wI a b))
abbrev xZ:Ex->E O:=cx [0,1,6,7,8] [0,1,6,7] [4,5]
abbrev y7(m n k i j:O):E AV:=[.sl 0 9 0 0 m ζ,.sl 1 9 0 0 n ζ,.own 2 k,.v (ι i),.v (ι j)]
def ang(a:(O->Z)->(O->Z)->O->Z)(w:(O->Z)->(O->Z)->κ)(m:O)(f:ω)(n:O)(g:ω)(k:O)(h:ω)(i j:O):let l:=(↑j:Z);let o:=(↑i:Z);let u:=AB.row η n 9 (J g) 112;let v:=AB.row η m 9 (J f) 112;let x:=ο (0+a5 l<n);let y:=ο (0+a5 o<m);let p:=ο (l<(↑n:Z));let r:=ο (o<(m:Z));let s:=AV.sl 1 9 0 0 n ζ;let t:=AV.sl 0 9 0 0 m ζ;let b:=(0+a5 o);let c:=(0+a5 l);let d:=(v8 (g c 1) (g c 2) (g c 3) (g c 4) (g c 5) (g c 6) (g c 7) (g c 8));let e:=(v8 (f b 1) (f b 2) (f b 3) (f b 4) (f b 5) (f b 6) (f b 7) (f b 8));a0 θ (FV a w) 100 K (a4 2 oK) (aw 0 70 ((xZ .normal).zip (y7 m n k i j))) (ff m f n g k h) (cJ 70 xZ 2)
 =bif ο (l<(↑n:Z))then Ω [r,y,p,x] (bif !w e d then rO [AV.own 2 0,vB η] [v,u,AB.row ε 0 9 (λ_=>[]) 112]else Ω [r,y,p,x,Θ k k,Θ (k+1) 549755813888] (ao.out .normal [t,s,AV.own 2 (k+1),vI o,vI (aj .i64 (l+(1:Z)))] [v,u,AB.row ε (k+1) 9 (λq=>[ι (bif Δ q k then h q 0 else aj .i64 (f b 0+g c 0)),ι (bif Δ q k then h q 1 else a e d 0),ι (bif Δ q k then h q 2 else a e d 1),ι (bif Δ q k then h q 3 else a e d 2),ι (bif Δ q k then h q 4 else a e d 3),ι (bif Δ q k then h q 5 else a e d 4),ι (bif Δ q k then h q 6 else a e d 5),ι (bif Δ q k then h q 7 else a e d 6),ι (bif Δ q k then h q 8 else a e d 7)]) 112]))else ao.out (Ex.exit 2) [t,s,AV.own 2 k,vI o] [v,u,AB.row ε k 9 (J h) 112]:=by intros;kernel_rfl
abbrev u_:Ex->E O:=cx [0,1,6,7] [6] [4,5]
abbrev qv(m n k i:O):E AV:=[.sl 0 9 0 0 m ζ,.sl 1 9 0 0 n ζ,.own 2 k,.v (ι i)]
abbrev Bn(m:O)(f:ω)(n:O)(g:ω):E AB:=ff m f n g 0 (Y [])
noncomputable abbrev UQ(m:O)(f:ω)(n:O)(g:ω)(k:O)(h:ω)(i:O)(c:κ)(k2:O)(b:ω):O->χ Sum:=bJ 2 (bD 70 (xZ .normal) 2 (y7 m n k i 0) (ff m f n g k h) (λa=>cond c (a .normal (aw 0 70 ([0,1,6,7].zip (qv m n k2 i))) (ff m f n g k2 b)) (a .ret (aw 0 70 [(4,.own 2 0),(5,.v (.bool η))]) (Bn m f n g))))
def ane(p:(O->Z)->(O->Z)->O->Z)(q:(O->Z)->(O->Z)->κ)(m:O)(f:ω)(n:O)(g:ω)(k:O)(h:ω)(i:O)(c:κ)(k2:O)(e:ω):let a:=AB.row η n 9 (J g) 112;let b:=AB.row η m 9 (J f) 112;let d:=(↑i:Z);let j:=AV.sl 1 9 0 0 n ζ;let l:=AV.sl 0 9 0 0 m ζ;let o:=[b,a,AB.row ε k 9 (J h) 112];a0 θ (FV p q) 100 (UQ m f n g k h i c k2 e) (a4 0 oK) (aw 0 70 ((u_ .normal).zip (qv m n k i))) (ff m f n g k h) (cJ 70 u_ 2)
 =bif ο (d<(m:Z))then Ω [cw ([l,j,AV.own 2 k,vI d,vI 0]=y7 m n k i 0/\ab o (ff m f n g k h))] (bif c then ao.out .normal [l,j,AV.own 2 k2,vI (aj .i64 (d+(1:Z)))] [b,a,AB.row ε k2 9 (J e) 112]else rO [AV.own 2 0,vB η] [b,a,AB.row ε 0 9 (J (Y [])) 112])else ao.out (Ex.exit 0) [AV.own 2 k] o:=by intros;kernel_rfl
def anf(a:(O->Z)->(O->Z)->O->Z)(b:(O->Z)->(O->Z)->κ)(m:O)(f:ω)(n:O)(g:ω)(k:O)(h:ω)(i:O):a0 θ (FV a b) 100 (bJ 2 ej) (a4 0 oK) (aw 0 70 ((u_ .normal).zip (qv m n k i))) (ff m f n g k h) (cJ 70 u_ 2)=bif ο ((↑i:Z)<(m:Z))then ao.err else ao.out (Ex.exit 0) [AV.own 2 k] [AB.row η m 9 (J f) 112,AB.row η n 9 (J g) 112,AB.row ε k 9 (J h) 112]:=by kernel_rfl
noncomputable abbrev L0(m:O)(f:ω)(n:O)(g:ω)(c:κ)(k:O)(h:ω):O->χ Sum:=bJ 0 (bD 70 (u_ .normal) 2 (qv m n 0 0) (ff m f n g 0 (Y [])) (λa=>cond c (a .normal (aw 0 70 [(6,.own 2 k)]) (ff m f n g k h)) (a .ret (aw 0 70 [(4,.own 2 0),(5,.v (.bool η))]) (Bn m f n g))))
def rc(a:E Wh->κ)(c:E Wh->E Wh)(b:E Wh->κ):aE:=ext (ext g0 95 (am bP (pM a))) 96 (am bP (Ej c b))
def ar3(a:E Wh->κ)(d:E Wh->E Wh)(b:E Wh->κ)(m:O)(f:ω)(n:O)(g:ω)(c:κ)(k:O)(h:ω):let e:=[AV.Ψ [AV.own 2 0,vB η]];let i:=(V (ξ (J h)) k);let j:=AB.row η m 9 (J f) 112;let l:=AB.row η n 9 (J g) 112;let p:=(b_ (d i));let o:=[j,l,AB.row ε 0 9 (λ_=>[]) 112];ad θ (rc a d b) (L0 m f n g c k h) 100 oK [.sl 0 9 0 0 m ζ,.sl 1 9 0 0 n ζ] (iW m f n g) (af 2)
 =Ω [Θ (0+m) m,ak m λq=>J f (0+q),ο (m<=549755813888)] (bif !a (V (ξ λq=>J f (0+q)) m)then rO e o else Ω [Θ (0+n) n,ak n λq=>J g (0+q),ο (n<=549755813888)] (bif !a (V (ξ λq=>J g (0+q)) n)then rO e o else Ω [cw ([AV.sl 0 9 0 0 m ζ,AV.sl 1 9 0 0 n ζ,AV.own 2 0,vI 0]=qv m n 0 0/\ab o (ff m f n g 0 (Y [])))] (bif c then Ω [Θ k k,ak k (J h),ο (k<=274877906944)] (rO [AV.Ψ [AV.own 2 p,AV.v (.bool (b i))]] [j,l,AB.row ε p 9 (J (Y (d i))) 112])else rO e [j,l,AB.row ε 0 9 (J (Y [])) 112]))):=by intros;kernel_rfl
def ar1(a:E Wh->κ)(b c:E Wh->κ)(m:O)(f:ω)(n:O)(g:ω):let d:=[AB.row η m 9 (J f) 112,AB.row η n 9 (J g) 112];let e:=[AV.Ψ [AV.v (dk ζ 0 0),vB η]];ad θ (fx a b c) (bJ 0 ej) 100 mP [.sl 0 9 0 0 m ζ,.sl 1 9 0 0 n ζ] (iW m f n g) (af 2)
 =Ω [Θ (0+m) m,ak m λq=>J f (0+q),ο (m<=549755813888)] (bif !a (V (ξ λq=>J f (0+q)) m)then rO e d else Ω [Θ (0+n) n,ak n λq=>J g (0+q),ο (n<=549755813888),!a (V (ξ λq=>J g (0+q)) n)] (rO e d)):=by intros;kernel_rfl
def ar4(a:E Wh->κ)(e:E Wh->E Wh)(b:E Wh->κ)(m:O)(f:ω)(n:O)(g:ω):let c:=[AB.row η m 9 (J f) 112,AB.row η n 9 (J g) 112,AB.row ε 0 9 (λ_=>[]) 112];let d:=[AV.Ψ [AV.own 2 0,vB η]];ad θ (rc a e b) (bJ 0 ej) 100 oK [.sl 0 9 0 0 m ζ,.sl 1 9 0 0 n ζ] (iW m f n g) (af 2)
 =Ω [Θ (0+m) m,ak m λq=>J f (0+q),ο (m<=549755813888)] (bif !a (V (ξ λq=>J f (0+q)) m)then rO d c else Ω [Θ (0+n) n,ak n λq=>J g (0+q),ο (n<=549755813888),!a (V (ξ λq=>J g (0+q)) n)] (rO d c)):=by intros;kernel_rfl
def gV(a b:aQ):κ:=(bz (bC a)&&bz (bC b))&&bz (bC (ep a b))
def jJ(a b:aQ):O->Z:=bif gV a b then ep a b else λ_=>0
def afT:aK θ (FI (λv=>bz (bC v)) ep):=by
 have a:q2 ep=AP:=by funext l;rfl
 unfold FI;rw[pW,a];exact az (az bt Cg) MR
def afS:aK θ (FH (λv=>bz (bC v)) ep):=by
 have a:q2 ep=Fi:=by funext l;rfl
 unfold FH;rw[pW,a];exact az (az bt Ce) VV
def ajZ:au θ 126 (am [.val,.val] (wI jJ gV)):=by
 refine bY afT func126 rfl λC H g I=>?_
 unfold wI at g;split at g
 ·rename_i h i j k l m n p r s t u w x y z
  cases g;refine⟨[],K,100,.nil,dq _,?_⟩;show aC (ad θ (FI (λv=>bz (bC v)) ep) K 100 f126 [.v (dn (v8 h i j k l m n p)),.v (dn (v8 r s t u w x y z))] [] (af 0)) _
  rw[aqm];generalize L:v8 h i j k l m n p=a;generalize M:v8 r s t u w x y z=b;have f:∀(v:aQ)(o:κ),jJ a b=v->gV a b=o->aC (.out .ret [.Ψ [.agg (fP v),.v (.bool o)]] []) (dV (bI [.val,.val] [.v (.agg ⟨[.int .i64 h,.int .i64 i,.int .i64 j,.int .i64 k,.int .i64 l,.int .i64 m,.int .i64 n,.int .i64 p]⟩),.v (.agg ⟨[.int .i64 r,.int .i64 s,.int .i64 t,.int .i64 u,.int .i64 w,.int .i64 x,.int .i64 y,.int .i64 z]⟩)] []) {val:=.Ψ [.agg (fP (jJ a b)),.v (.bool (gV a b))]}):=by rintro v o rfl rfl;exact Φ ⟨_,rfl,rfl,.nil⟩
  have d:gV a b=η->aC (.out .ret [.Ψ [.agg (fP λ_=>0),.v (.bool η)]] []) _:=λe=>f _ _ (by rw[jJ,e];rfl) e
  refine ay (λq=>?_) λq=>?_
  ·have c:(!bz (bC a))=ε:=q
   exact d (by rw[gV,show bz (bC a)=η by simpa using c];rfl)
  ·have c:(!bz (bC a))=η:=q
   have A:bz (bC a)=ε:=by simpa using c
   refine ay (λq=>?_) λq=>?_
   ·have c:(!bz (bC b))=ε:=q
    exact d (by rw[gV,A,show bz (bC b)=η by simpa using c];rfl)
   ·have c:(!bz (bC b))=η:=q
    have B:bz (bC b)=ε:=by simpa using c
    refine ay (λq=>?_) λq=>?_
    ·have c:(!bz (bC (ep a b)))=ε:=q
     exact d (by rw[gV,A,B,show bz (bC (ep a b))=η by simpa using c];rfl)
    ·have c:(!bz (bC (ep a b)))=η:=q
     have G:bz (bC (ep a b))=ε:=by simpa using c
     have e:gV a b=ε:=by rw[gV,A,B,G];rfl
     exact f (ep a b) ε (by rw[jJ,e];rfl) e
 ·cases g
def aj0:au θ 97 (am [.val,.val] (wI jJ gV)):=by
 refine bY afS func97 rfl λC H g I=>?_
 unfold wI at g;split at g
 ·rename_i h i j k l m n p r s t u w x y z
  cases g;refine⟨[],K,100,.nil,dq _,?_⟩;show aC (ad θ (FH (λv=>bz (bC v)) ep) K 100 f97 [.v (dn (v8 h i j k l m n p)),.v (dn (v8 r s t u w x y z))] [] (af 0)) _
  rw[aqn];generalize L:v8 h i j k l m n p=a;generalize M:v8 r s t u w x y z=b;have f:∀(v:aQ)(o:κ),jJ a b=v->gV a b=o->aC (.out .ret [.Ψ [.agg (fP v),.v (.bool o)]] []) (dV (bI [.val,.val] [.v (.agg ⟨[.int .i64 h,.int .i64 i,.int .i64 j,.int .i64 k,.int .i64 l,.int .i64 m,.int .i64 n,.int .i64 p]⟩),.v (.agg ⟨[.int .i64 r,.int .i64 s,.int .i64 t,.int .i64 u,.int .i64 w,.int .i64 x,.int .i64 y,.int .i64 z]⟩)] []) {val:=.Ψ [.agg (fP (jJ a b)),.v (.bool (gV a b))]}):=by rintro v o rfl rfl;exact Φ ⟨_,rfl,rfl,.nil⟩
  have d:gV a b=η->aC (.out .ret [.Ψ [.agg (fP λ_=>0),.v (.bool η)]] []) _:=λe=>f _ _ (by rw[jJ,e];rfl) e
  refine ay (λq=>?_) λq=>?_
  ·have c:(!bz (bC a))=ε:=q
   exact d (by rw[gV,show bz (bC a)=η by simpa using c];rfl)
  ·have c:(!bz (bC a))=η:=q
   have A:bz (bC a)=ε:=by simpa using c
   refine ay (λq=>?_) λq=>?_
   ·have c:(!bz (bC b))=ε:=q
    exact d (by rw[gV,A,show bz (bC b)=η by simpa using c];rfl)
   ·have c:(!bz (bC b))=η:=q
    have B:bz (bC b)=ε:=by simpa using c
    refine ay (λq=>?_) λq=>?_
    ·have c:(!bz (bC (ep a b)))=ε:=q
     exact d (by rw[gV,A,B,show bz (bC (ep a b))=η by simpa using c];rfl)
    ·have c:(!bz (bC (ep a b)))=η:=q
     have G:bz (bC (ep a b))=ε:=by simpa using c
     have e:gV a b=ε:=by rw[gV,A,B,G];rfl
     exact f (ep a b) ε (by rw[jJ,e];rfl) e
 ·cases g
def fH(x y:Wh):Wh:=⟨aj a7 (x.s+y.s),bC (jJ x.r.f y.r.f)⟩
def jo(x y:Wh):κ:=gV x.r.f y.r.f
def cQ(A B:E Wh):E Wh:=A.flatMap λx=>B.map (fH x)
def lO(A B:E Wh):κ:=A.all λx=>B.all (jo x)
def GJ(A B:E Wh)(x:Wh):cQ (A++[x]) B=cQ A B++B.map (fH x):=by simp[cQ]
def VB(A B:E Wh)(x:Wh):lO (A++[x]) B=(lO A B&&B.all (jo x)):=by simp[lO]
def Cs(A B:E Wh):(cQ A B).length=A.length*B.length:=by
 induction A with
 |nil=>simp[cQ]
 |cons x A a=>have:cQ (x::A) B=B.map (fH x)++cQ A B:=rfl;rw[this,cv,cC,a,cn,fN,Nat.one_mul,Nat.add_comm]
def WB(A B:E Wh):n8 (cQ A B):=by
 intro w a;simp only[cQ,List.mem_flatMap,fX]at a;obtain⟨x,_,y,_,rfl⟩:=a;refine EQ λk _=>?_
 unfold jJ;cases gV x.r.f y.r.f with
 |true=>exact nr _
 |false=>show(-9223372036854775808:Z)<=0/\(0:Z)<=9223372036854775807;omega
def VA{A B:E Wh}{i:O}{f:O->O->Z}{m:O}(a:A=V f m)(b:i<m)(h:B.all (jo (bm (f i)))=η):lO A B=η:=by
 subst a;cases e:lO (V f m) B with
 |false=>rfl
 |true=>have:=bX.1 e (bm (f i)) (g8 (nb f b));rw[h]at this;cases this
def QY{g:O->O->Z}{n j:O}{p:Wh->κ}(a:j<n)(h:p (bm (g j))=η):(V g n).all p=η:=by
 cases e:(V g n).all p with
 |false=>rfl
 |true=>have:=bX.1 e (bm (g j)) (g8 (nb g a));rw[h]at this;cases this
def Tq:aK θ (FZ jJ gV):=az bt ajZ
def Th:aK θ (FV jJ gV):=az bt aj0
def apb(m:O)(f:ω)(n:O)(g:ω)(P:E Wh)(x:aQ)(i:O)(t:P.length<=2^37)(u:n<=2^37)(v:m<=2^37):cp θ 2 (.block 2 (.loop (a4 2 mP))) (bD 60 (x_ .normal) 2 (y8 m n P.length i 0) (uY m f n g P.length (Y P) x) (λa=>cond ((V g n).all (jo (bm x))) (a .normal (aw 0 60 ([1,6,22,23,24].zip (pq m n (P.length+n) i))) (ff m f n g (P.length+n) (Y (P++(V g n).map (fH (bm x)))))) (a .ret (aw 0 60 [(4,.v (.slice ζ 0 0)),(5,.v (.bool η))]) (iW m f n g)))):=by
 have S:cp θ 2 (.block 2 (.loop (a4 2 mP))) (bD 60 (x_ .normal) 2 (y8 m n (P.length+0) i 0) (uY m f n g (P.length+0) (Y (P++(V g 0).map (fH (bm x)))) x) (λa=>cond ((V g n).all (jo (bm x))) (a .normal (aw 0 60 ([1,6,22,23,24].zip (pq m n (P.length+n) i))) (ff m f n g (P.length+n) (Y (P++(V g n).map (fH (bm x)))))) (a .ret (aw 0 60 [(4,.v (.slice ζ 0 0)),(5,.v (.bool η))]) (iW m f n g)))):=by
  refine dQ Tq (n:=100) (m:=2) (lv:=x_) (λj=>y8 m n (P.length+j) i j) (λj=>uY m f n g (P.length+j) (Y (P++(V g j).map (fH (bm x)))) x) (λj=>(V g j).all (jo (bm x))=ε) n (λ_=>K) (du rfl rfl rfl) (aR _) rfl λa Q d j h k=>⟨cT _ _ _,?_⟩
  rw[ank];refine ay (λb=>?_) λb=>?_
  ·have b:=aL b
   have c:j<n:=by omega
   simp only[cY,bF];rw[bR (x:=(j:Z)+1) (by omega)];refine ag (by simp only[F,ah,aa,aB];omega) (ay (λq=>?_) λq=>?_)
   ·have e:(!(jo (bm x) (bm (g j))))=ε:=q
    have l:(V g n).all (jo (bm x))=η:=QY c (by simpa using e);rw[l]at d;exact Φ ⟨_,ab.refl _,d⟩
   ·have e:(!(jo (bm x) (bm (g j))))=η:=q
    have o:jo (bm x) (bm (g j))=ε:=by simpa using e
    refine ag (by simp only[F,ah,aa,aB,aT];omega) (Φ ⟨j+1,⟨rfl,c,by rw[gw,gC,h];simp[o]⟩,rfl,?_⟩);show ab _ (uY m f n g (P.length+(j+1)) (Y (P++(V g (j+1)).map (fH (bm x)))) x)
    rw[gw,iN,<-lZ];refine .cons (Ξ.refl _) (.cons (Ξ.refl _) (.cons (Ξ.row λr p=>?_) (.cons (Ξ.refl _) .nil)));exact nT _ (fH (bm x) (bm (g j))) (P.length+j) (by rw[cv,cC,ch]) r p
  ·have b:=cE b
   have:j=n:=by omega
   subst this;refine Φ ⟨_,ab.refl _,?_⟩;rw[aP rfl];rw[h]at d;exact d
 have s:P++(V g 0).map (fH (bm x))=P:=Dy P;rw[s]at S;exact S
def X_(m:O)(f:ω)(n:O)(g:ω)(p:m<=12)(j:n<=12):cp θ 2 (.block 0 (.loop (a4 0 mP))) (bD 60 (va .normal) 2 (pq m n 0 0) (ff m f n g 0 (Y [])) (λa=>cond (lO (V f m) (V g n)) (a .normal (aw 0 60 [(6,.own 2 (cQ (V f m) (V g n)).length)]) (ff m f n g (cQ (V f m) (V g n)).length (Y (cQ (V f m) (V g n))))) (a .ret (aw 0 60 [(4,.v (.slice ζ 0 0)),(5,.v (.bool η))]) (iW m f n g)))):=by
 refine dQ Tq (n:=100) (m:=2) (lv:=va) (λi=>pq m n (cQ (V f i) (V g n)).length i) (λi=>ff m f n g (cQ (V f i) (V g n)).length (Y (cQ (V f i) (V g n)))) (λi=>lO (V f i) (V g n)=ε) m
  (λi=>bif Δ i m then US m f n g (cQ (V f i) (V g n)).length (Y (cQ (V f i) (V g n))) (f i) i ((V g n).all (jo (bm (f i)))) ((cQ (V f i) (V g n)).length+n) (Y (cQ (V f i) (V g n)++(V g n).map (fH (bm (f i)))))else bJ 2 ej) (du rfl rfl rfl) (aR _) rfl λa Q e i h k=>?_
 by_cases d:i<m
 ·rw[EF d,aZ]
  have l:(cQ (V f i) (V g n)).length<=2^37:=by rw[Cs,ch,ch];exact cD (pD (by omega:i<=12) j) (by omega)
  refine⟨u2 (c:=a4 2 mP) (by kernel_rfl) (apb m f n g _ (f i) i l (by omega) (by omega)),?_⟩;rw[ani];refine eS (bA (by omega)) ?_;rw[cY,bF,bR (x:=(i:Z)+1) (by omega)];refine ag (by simp only[F,ah,aa,aB];exact⟨by omega,by omega,cg ⟨rfl,ab.refl _⟩⟩) (ay (λq=>?_) λq=>?_)
  ·refine Φ ⟨i+1,⟨rfl,d,by rw[gw,VB,h,q];rfl⟩,?_,?_⟩
   ·show _=pq m n (cQ (V f (i+1)) (V g n)).length (i+1)
    rw[gw,GJ,cv,cC,ch];rfl
   ·show ab _ (ff m f n g (cQ (V f (i+1)) (V g n)).length (Y (cQ (V f (i+1)) (V g n))))
    rw[gw,GJ,cv,cC,ch];exact ab.refl _
  ·rw[VA rfl d q]at e
   exact Φ ⟨_,ab.refl _,e⟩
 ·have b:Δ i m=η:=by
   cases o:Δ i m with
   |false=>rfl
   |true=>rw[bS]at o;omega
  rw[b,a_];have:i=m:=by omega
  subst this;refine⟨u2 (c:=a4 2 mP) (by kernel_rfl) nZ,?_⟩;rw[anj];refine cL (eJ (by omega)) (Φ ⟨_,ab.refl _,?_⟩);rw[aP rfl];rw[h]at e;exact e
def ao'(m:O)(f:ω)(n:O)(g:ω)(P:E Wh)(i:O)(u:P.length<=2^37)(v:n<=2^37)(k:i<m)(w:m<=2^37):cp θ 2 (.block 2 (.loop (a4 2 oK))) (bD 70 (xZ .normal) 2 (y7 m n P.length i 0) (ff m f n g P.length (Y P)) (λa=>cond ((V g n).all (jo (bm (f i)))) (a .normal (aw 0 70 ([0,1,6,7].zip (qv m n (P.length+n) i))) (ff m f n g (P.length+n) (Y (P++(V g n).map (fH (bm (f i))))))) (a .ret (aw 0 70 [(4,.own 2 0),(5,.v (.bool η))]) (Bn m f n g)))):=by
 have S:cp θ 2 (.block 2 (.loop (a4 2 oK))) (bD 70 (xZ .normal) 2 (y7 m n (P.length+0) i 0) (ff m f n g (P.length+0) (Y (P++(V g 0).map (fH (bm (f i)))))) (λa=>cond ((V g n).all (jo (bm (f i)))) (a .normal (aw 0 70 ([0,1,6,7].zip (qv m n (P.length+n) i))) (ff m f n g (P.length+n) (Y (P++(V g n).map (fH (bm (f i))))))) (a .ret (aw 0 70 [(4,.own 2 0),(5,.v (.bool η))]) (Bn m f n g)))):=by
  refine dQ Th (n:=100) (m:=2) (lv:=xZ) (λj=>y7 m n (P.length+j) i j) (λj=>ff m f n g (P.length+j) (Y (P++(V g j).map (fH (bm (f i)))))) (λj=>(V g j).all (jo (bm (f i)))=ε) n (λ_=>K) (du rfl rfl rfl) (aR _) rfl λa Q d j e l=>⟨cT _ _ _,?_⟩
  rw[ang];refine ay (λb=>?_) λb=>?_
  ·have b:=aL b
   have c:j<n:=by omega
   simp only[cY,bF];rw[bR (x:=(j:Z)+1) (by omega)];refine ag (by simp only[F,ah,aa,aB];omega) (ay (λq=>?_) λq=>?_)
   ·have h:(!(jo (bm (f i)) (bm (g j))))=ε:=q
    have o:(V g n).all (jo (bm (f i)))=η:=QY c (by simpa using h);rw[o]at d;exact Φ ⟨_,.cons (Ξ.refl _) (.cons (Ξ.refl _) (.cons (Ξ.row λj e=>aO e (cN _)) .nil)),d⟩
   ·have h:(!(jo (bm (f i)) (bm (g j))))=η:=q
    have p:jo (bm (f i)) (bm (g j))=ε:=by simpa using h
    refine ag (by simp only[F,ah,aa,aB,aT];omega) (Φ ⟨j+1,⟨rfl,c,by rw[gw,gC,e];simp[p]⟩,rfl,?_⟩);show ab _ (ff m f n g (P.length+(j+1)) (Y (P++(V g (j+1)).map (fH (bm (f i))))))
    rw[gw,iN,<-lZ];refine .cons (Ξ.refl _) (.cons (Ξ.refl _) (.cons (Ξ.row λr s=>?_) .nil));exact nT _ (fH (bm (f i)) (bm (g j))) (P.length+j) (by rw[cv,cC,ch]) r s
  ·have b:=cE b
   have:j=n:=by omega
   subst this;refine Φ ⟨_,ab.refl _,?_⟩;rw[aP rfl];rw[e]at d;exact d
 have t:P++(V g 0).map (fH (bm (f i)))=P:=Dy P;rw[t]at S;exact S
def ao_(m:O)(f:ω)(n:O)(g:ω)(s:m<=12)(k:n<=12):cp θ 2 (.block 0 (.loop (a4 0 oK))) (bD 70 (u_ .normal) 2 (qv m n 0 0) (ff m f n g 0 (Y [])) (λa=>cond (lO (V f m) (V g n)) (a .normal (aw 0 70 [(6,.own 2 (cQ (V f m) (V g n)).length)]) (ff m f n g (cQ (V f m) (V g n)).length (Y (cQ (V f m) (V g n))))) (a .ret (aw 0 70 [(4,.own 2 0),(5,.v (.bool η))]) (Bn m f n g)))):=by
 refine dQ Th (n:=100) (m:=2) (lv:=u_) (λi=>qv m n (cQ (V f i) (V g n)).length i) (λi=>ff m f n g (cQ (V f i) (V g n)).length (Y (cQ (V f i) (V g n)))) (λi=>lO (V f i) (V g n)=ε) m
  (λi=>bif Δ i m then UQ m f n g (cQ (V f i) (V g n)).length (Y (cQ (V f i) (V g n))) i ((V g n).all (jo (bm (f i)))) ((cQ (V f i) (V g n)).length+n) (Y (cQ (V f i) (V g n)++(V g n).map (fH (bm (f i)))))else bJ 2 ej) (du rfl rfl rfl) (aR _) rfl λa Q e i h l=>?_
 by_cases d:i<m
 ·rw[EF d,aZ]
  have o:(cQ (V f i) (V g n)).length<=2^37:=by rw[Cs,ch,ch];exact cD (pD (by omega:i<=12) k) (by omega)
  refine⟨u2 (c:=a4 2 oK) (by kernel_rfl) (ao' m f n g _ i o (by omega) d (by omega)),?_⟩;rw[ane];refine eS (bA (by omega)) ?_;rw[bR (x:=(i:Z)+1) (by omega)];refine ag (by rw[F];exact⟨cg ⟨rfl,ab.refl _⟩,rfl⟩) (ay (λq=>?_) λq=>?_)
  ·refine Φ ⟨i+1,⟨rfl,d,by rw[gw,VB,h,q];rfl⟩,?_,?_⟩
   ·show _=qv m n (cQ (V f (i+1)) (V g n)).length (i+1)
    rw[gw,GJ,cv,cC,ch];rfl
   ·show ab _ (ff m f n g (cQ (V f (i+1)) (V g n)).length (Y (cQ (V f (i+1)) (V g n))))
    rw[gw,GJ,cv,cC,ch];exact ab.refl _
  ·rw[VA rfl d q]at e
   exact Φ ⟨_,.cons (Ξ.refl _) (.cons (Ξ.refl _) (.cons (Ξ.row λj p=>aO p (cN _)) .nil)),e⟩
 ·have b:Δ i m=η:=by
   cases r:Δ i m with
   |false=>rfl
   |true=>rw[bS]at r;omega
  rw[b,a_];have:i=m:=by omega
  subst this;refine⟨u2 (c:=a4 2 oK) (by kernel_rfl) nZ,?_⟩;rw[anf];refine cL (eJ (by omega)) (Φ ⟨_,ab.refl _,?_⟩);rw[aP rfl];rw[h]at e;exact e
def pr(A B:E Wh):κ:=(aG A&&aG B)&&lO A B
def fs(A B:E Wh):κ:=pr A B&&bg (cQ A B)
def vU(A B:E Wh):E Wh:=bv (cQ A B)
def iB(A B:E Wh):E Wh:=bif pr A B then bv (cQ A B)else[]
def wO(c:E Wh->E Wh->κ)(d:E Wh->E Wh->E Wh):E SA->χ FR
 |[.row m a,.row n b]=>γ {val:=js (d (V (ξ a) m) (V (ξ b) n)),new:=fR (d (V (ξ a) m) (V (ξ b) n)),ap:=[ak m a,ak n b,ο (m<=2^38),ο (n<=2^38),c (V (ξ a) m) (V (ξ b) n)]}
 |_=>ζ
def wM(a:E Wh->E Wh->κ):E SA->χ FR
 |[.row m b,.row n c]=>γ {val:=eQ,ap:=[ak m b,ak n c,ο (m<=2^38),ο (n<=2^38),!a (V (ξ b) m) (V (ξ c) n)]}
 |_=>ζ
def wN(c:E Wh->E Wh->κ)(tl:E Wh->E Wh->E Wh):E SA->χ FR
 |[.row m a,.row n b]=>γ {val:=.Ψ [.own 0 (tl (V (ξ a) m) (V (ξ b) n)).length,.v (.bool (c (V (ξ a) m) (V (ξ b) n)))],new:=[.row ε (tl (V (ξ a) m) (V (ξ b) n)).length 9 (J (Y (tl (V (ξ a) m) (V (ξ b) n)))) 112],ap:=[ak m a,ak n b,ο (m<=2^38),ο (n<=2^38)]}
 |_=>ζ
def Tj:aK θ (rc aG bv bg):=by unfold rc;rw[Ek,so];exact az (az bt yj) Gz
def aln:au θ 65 (am kB (wO fs vU)):=by
 refine bY sW func65 rfl λp y d g=>?_
 unfold wO at d;split at d
 ·rename_i m a n b
  cases d;simp only[F]at g;obtain⟨h,i,q,r,k,_⟩:=g;have z:=aL q;have A:=aL r;rw[fs,pr,aM,aM,aM]at k;obtain⟨⟨⟨l,o⟩,s⟩,t⟩:=k;have e:=kd l;have f:=kd o;rw[ch]at e f;have B:(cQ (V (ξ a) m) (V (ξ b) n)).length<=144:=by rw[Cs,ch,ch];exact cD (pD e f) (by omega)
  have u:aC (ad θ (kA aG bv bg dS) (Bp m (ξ a) n (ξ b) (lO (V (ξ a) m) (V (ξ b) n)) (cQ (V (ξ a) m) (V (ξ b) n)).length (Y (cQ (V (ξ a) m) (V (ξ b) n)))) 100 mP [.sl 0 9 0 0 m ζ,.sl 1 9 0 0 n ζ] (iW m (ξ a) n (ξ b)) (af 2)) (dV (bI kB [.row m a,.row n b] []) {val:=js (vU (V (ξ a) m) (V (ξ b) n)),new:=fR (vU (V (ξ a) m) (V (ξ b) n)),ap:=[ak m a,ak n b,ο (m<=2^38),ο (n<=2^38),fs (V (ξ a) m) (V (ξ b) n)]}):=by
   rw[ar5,bV,bV,cb,cb,fo _ _ rfl];refine ag (by simp only[F,ah,aa,aB,aT,bw,bo];omega) (cL (by rw[l];rfl) (ag (by simp only[F,ah,aa,aB,aT,bw,bo];omega) (cL (by rw[o];rfl) (ag ?_ (eS s (ag ?_ (Φ ⟨_,rfl,rfl,.cons (Ξ.row λj c=>(aN h j c).symm) (.cons (Ξ.row λj c=>(aN i j c).symm) (ab.refl _))⟩)))))))
   ·rw[F]
    exact⟨cg ⟨rfl,.cons (Ξ.refl _) (.cons (Ξ.refl _) (.cons (Ξ.row λj c=>aO c (cN _)) .nil))⟩,rfl⟩
   ·simp only[F,ah,aa,bw]
    exact⟨by simp,trivial,bA (by omega),cg (WB _ _),t⟩
  exact⟨iW m (ξ a) n (ξ b),_,100,.cons (Ξ.row λj c=>aN h j c) (.cons (Ξ.row λj c=>aN i j c) .nil),cz (by kernel_rfl) (X_ m (ξ a) n (ξ b) e f),u⟩
 ·cases d
def alk:au θ 65 (am kB (wM fs)):=by
 refine bY sV func65 rfl λu C g s=>?_
 unfold wM at g;split at g
 ·rename_i m a n b
  cases g;simp only[F]at s;obtain⟨i,k,v,w,t,_⟩:=s;have D:=aL v;have G:=aL w;have e:aC (.out .ret [eQ] (iW m (ξ a) n (ξ b))) (dV (bI kB [.row m a,.row n b] []) {val:=eQ,ap:=[ak m a,ak n b,ο (m<=2^38),ο (n<=2^38),!fs (V (ξ a) m) (V (ξ b) n)]}):=
   Φ ⟨_,rfl,rfl,.cons (Ξ.row λj d=>(aN i j d).symm) (.cons (Ξ.row λj d=>(aN k j d).symm) .nil)⟩
  have f:aJ [Θ (0+m) m,ak m (J (ξ a)),ο (m<=549755813888)]=ε:=by simp only[F,ah,aa,aB,aT,bw,bo];omega
  have Ca:aJ [Θ (0+n) n,ak n (J (ξ b)),ο (n<=549755813888)]=ε:=by simp only[F,ah,aa,aB,aT,bw,bo];omega
  by_cases h:(aG (V (ξ a) m)&&aG (V (ξ b) n))=ε
  ·rw[aM]at h
   obtain⟨l,o⟩:=h;have p:=kd l;have r:=kd o;rw[ch]at p r;have H:(cQ (V (ξ a) m) (V (ξ b) n)).length<=144:=by rw[Cs,ch,ch];exact cD (pD p r) (by omega)
   refine⟨iW m (ξ a) n (ξ b),Bp m (ξ a) n (ξ b) (lO (V (ξ a) m) (V (ξ b) n)) (cQ (V (ξ a) m) (V (ξ b) n)).length (Y (cQ (V (ξ a) m) (V (ξ b) n))),100,.cons (Ξ.row λj d=>aN i j d) (.cons (Ξ.row λj d=>aN k j d) .nil),cz (by kernel_rfl) (X_ m (ξ a) n (ξ b) p r),?_⟩;show aC (ad θ (fx aG bg dS) (Bp m (ξ a) n (ξ b) (lO (V (ξ a) m) (V (ξ b) n)) (cQ (V (ξ a) m) (V (ξ b) n)).length (Y (cQ (V (ξ a) m) (V (ξ b) n)))) 100 mP [.sl 0 9 0 0 m ζ,.sl 1 9 0 0 n ζ] (iW m (ξ a) n (ξ b)) (af 2)) _
   rw[ar2,bV,bV,cb,cb,fo _ _ rfl];refine ag f (cL (by rw[l];rfl) (ag Ca (cL (by rw[o];rfl) (ag ?_ (ay (λq=>ag ?_ e) λ_=>e)))))
   ·rw[F]
    exact⟨cg ⟨rfl,.cons (Ξ.refl _) (.cons (Ξ.refl _) (.cons (Ξ.row λj d=>aO d (cN _)) .nil))⟩,rfl⟩
   ·rw[fs,pr,l,o,q]at t
    simp only[F,ah,aa,bw];exact⟨by simp,trivial,bA (by omega),cg (WB _ _),t⟩
  ·refine⟨iW m (ξ a) n (ξ b),bJ 0 ej,100,.cons (Ξ.row λj d=>aN i j d) (.cons (Ξ.row λj d=>aN k j d) .nil),cz (c:=a4 0 mP) (by kernel_rfl) nZ,?_⟩
   show aC (ad θ (fx aG bg dS) (bJ 0 ej) 100 mP [.sl 0 9 0 0 m ζ,.sl 1 9 0 0 n ζ] (iW m (ξ a) n (ξ b)) (af 2)) _
   rw[ar1,bV,bV,cb,cb];refine ag f (ay (λ_=>e) λq=>ag ?_ e);have z:aG (V (ξ a) m)=ε:=by have A:(!aG (V (ξ a) m))=η:=q;simpa using A
   have B:aG (V (ξ b) n)=η:=by rw[z,dD]at h;simpa using h
   simp only[F,ah,aa,aB,aT,bw,bo,B];exact⟨by omega,by omega,rfl⟩
 ·cases g
def alm:au θ 48 (am kB (wN fs iB)):=by
 refine bY Tj func48 rfl λw M l v=>?_
 unfold wN at l;split at l
 ·rename_i m a n d
  cases l;simp only[F]at v;obtain⟨o,p,x,y,_⟩:=v;have N:=aL x;have P:=aL y;have h:∀(D:E Wh)(b:κ)(G:O->E τ),fs (V (ξ a) m) (V (ξ d) n)=b->iB (V (ξ a) m) (V (ξ d) n)=D->(∀j,j<D.length->G j=J (Y D) j)->aC (.out .ret [.Ψ [.own 2 D.length,.v (.bool b)]] [.row η m 9 (J (ξ a)) 112,.row η n 9 (J (ξ d)) 112,.row ε D.length 9 G 112])
    (dV (bI kB [.row m a,.row n d] []) {val:=.Ψ [.own 0 (iB (V (ξ a) m) (V (ξ d) n)).length,.v (.bool (fs (V (ξ a) m) (V (ξ d) n)))],new:=[.row ε (iB (V (ξ a) m) (V (ξ d) n)).length 9 (J (Y (iB (V (ξ a) m) (V (ξ d) n)))) 112],ap:=[ak m a,ak n d,ο (m<=2^38),ο (n<=2^38)]}):=by
   rintro D b G rfl rfl C;exact Φ ⟨_,rfl,rfl,.cons (Ξ.row λj f=>(aN o j f).symm) (.cons (Ξ.row λj f=>(aN p j f).symm) (.cons (Ξ.row C) .nil))⟩
  have g:∀G,pr (V (ξ a) m) (V (ξ d) n)=η->aC (.out .ret [.Ψ [.own 2 0,.v (.bool η)]] [.row η m 9 (J (ξ a)) 112,.row η n 9 (J (ξ d)) 112,.row ε 0 9 G 112]) _:=λG e=>h [] η G (by rw[fs,e];rfl) (by rw[iB,e];rfl) λj f=>aO f (cN _)
  have i:aJ [Θ (0+m) m,ak m (J (ξ a)),ο (m<=549755813888)]=ε:=by simp only[F,ah,aa,aB,aT,bw,bo];omega
  have Ca:aJ [Θ (0+n) n,ak n (J (ξ d)),ο (n<=549755813888)]=ε:=by simp only[F,ah,aa,aB,aT,bw,bo];omega
  by_cases k:(aG (V (ξ a) m)&&aG (V (ξ d) n))=ε
  ·rw[aM]at k
   obtain⟨r,s⟩:=k;have t:=kd r;have u:=kd s;rw[ch]at t u;have Q:(cQ (V (ξ a) m) (V (ξ d) n)).length<=144:=by rw[Cs,ch,ch];exact cD (pD t u) (by omega)
   refine⟨iW m (ξ a) n (ξ d),L0 m (ξ a) n (ξ d) (lO (V (ξ a) m) (V (ξ d) n)) (cQ (V (ξ a) m) (V (ξ d) n)).length (Y (cQ (V (ξ a) m) (V (ξ d) n))),100,.cons (Ξ.row λj f=>aN o j f) (.cons (Ξ.row λj f=>aN p j f) .nil),cz (by kernel_rfl) (ao_ m (ξ a) n (ξ d) t u),?_⟩;show aC (ad θ (rc aG bv bg) (L0 m (ξ a) n (ξ d) (lO (V (ξ a) m) (V (ξ d) n)) (cQ (V (ξ a) m) (V (ξ d) n)).length (Y (cQ (V (ξ a) m) (V (ξ d) n)))) 100 oK [.sl 0 9 0 0 m ζ,.sl 1 9 0 0 n ζ] (iW m (ξ a) n (ξ d)) (af 2)) _
   rw[ar3,bV,bV,cb,cb,fo _ _ rfl];refine ag i (cL (by rw[r];rfl) (ag Ca (cL (by rw[s];rfl) (ag ?_ (ay (λq=>?_) λq=>?_)))))
   ·rw[F]
    exact⟨cg ⟨rfl,.cons (Ξ.refl _) (.cons (Ξ.refl _) (.cons (Ξ.row λj f=>aO f (cN _)) .nil))⟩,rfl⟩
   ·have e:pr (V (ξ a) m) (V (ξ d) n)=ε:=by rw[pr,r,s,q];rfl
    refine ag ?_ (h _ _ _ (by rw[fs,e];rfl) (by rw[iB,e];rfl) λj f=>rfl);simp only[F,ah,aa,bw];exact⟨by simp,trivial,bA (by omega)⟩
   ·exact g _ (by rw[pr,q,Bool.and_false])
  ·have e:pr (V (ξ a) m) (V (ξ d) n)=η:=by rw[pr,show(aG (V (ξ a) m)&&aG (V (ξ d) n))=η by simpa using k];rfl
   refine⟨iW m (ξ a) n (ξ d),bJ 0 ej,100,.cons (Ξ.row λj f=>aN o j f) (.cons (Ξ.row λj f=>aN p j f) .nil),cz (c:=a4 0 oK) (by kernel_rfl) nZ,?_⟩;show aC (ad θ (rc aG bv bg) (bJ 0 ej) 100 oK [.sl 0 9 0 0 m ζ,.sl 1 9 0 0 n ζ] (iW m (ξ a) n (ξ d)) (af 2)) _
   rw[ar4,bV,bV,cb,cb];refine ag i (ay (λ_=>g _ e) λq=>ag ?_ (g _ e));have H:aG (V (ξ a) m)=ε:=by have I:(!aG (V (ξ a) m))=η:=q;simpa using I
   have L:aG (V (ξ d) n)=η:=by rw[H,dD]at k;simpa using k
   simp only[F,ah,aa,aB,aT,bw,bo,L];exact⟨by omega,by omega,rfl⟩
 ·cases l
def Yx{A B:E Wh}(h:fs A B=ε):iB A B=vU A B:=by rw[fs,aM]at h;rw[iB,h.1];rfl
abbrev aq(w:υ):O->Prop:=λk=>w.heap.size<=k
def au.down{f:bq}{S:Spec}(h:au θ f S){avs:E AV}{H:E AB}{base:O}{δ:Delta}{ν:Nu}{vals:E τ}{w:υ}(t:S avs H base=γ δ)(u:aJ δ.ap=ε)(o:δ.put=[])(x:ax ν avs vals)(y:∀i∈δ.rd,BR ν i (H.getD i .gone) w)(g:∀i b,ν i=γ b->i<base/\b.n<w.heap.size)(z:aY (aq w) w):aH θ f vals.toArray w λe w'=>∃v a,e=.returned v/\VR a δ.val v/\(∀(j:O) b,δ.new[j]?=γ b->BR a (base+j) b w')/\(∀(j:O) b,j<δ.new.length->a (base+j)=γ b->w.heap.size<=b.n/\b.n<w'.heap.size)/\Fr (aq w) w w':=by
 refine(h.2 avs H base δ ν vals w t u x y (λi b q=>(g i b q).2) (λj _=>?_) (λi c j b C l=>?_) (z.mono λk _ m=>?_)).mono ?_
 ·cases e:ν (base+j)with
  |none=>rfl
  |some b=>have:=(g _ b e).1;omega
 ·rw[o]at l
  cases l
 ·rcases m with m|⟨i,b,c,l,_⟩
  ·exact m
  ·rw[o]at l
   cases l
 ·rintro e w' ⟨v,a,rfl,d⟩
  refine⟨v,a,rfl,d.val,d.new,λj b A q=>?_,d.os,d.tape,d.output,d.size,λk m _=>d.block k m λp b n=>?_⟩
  ·obtain⟨B,r⟩:=d.fresh j b A q
   refine⟨?_,B⟩;rcases r with r|⟨i,D,s,_⟩
   ·exact r
   ·rw[o]at s
    cases s
  ·rw[o]at n
   cases n
def sw(w:υ)(k:O):Prop:=∃l a,w.heap[k]?=γ (.cells l 112 a)
def bl(w:υ)(v:τ)(L:E Wh):Prop:=
 ∃a:Nu,(∀i b,a i=γ b->i=0/\b.n<w.heap.size/\sw w b.n)/\VR a (.sl 0 9 0 0 L.length ζ) v/\BR a 0 (.row η L.length 9 (J (Y L)) 112) w
def bl.nil(w:υ):bl w (.slice ζ 0 0) []:=by refine⟨λ_=>ζ,λi b h=>(by cases h),?_,.inl ⟨rfl,rfl,rfl⟩⟩;simp only[VR];exact⟨ζ,0,rfl,by simp,aR _,λh=>aO h (nF 0)⟩
def bl.kept{w w':υ}{v:τ}{L:E Wh}(h:bl w v L)(hs:w.heap.size<=w'.heap.size)(d:∀k,k<w.heap.size->sw w k->w'.heap[k]?=w.heap[k]?):bl w' v L:=by obtain⟨j,c,l,m⟩:=h;refine⟨j,λi b e=>?_,l,m.of_block λk a _=>d _ (c _ k a).2.1 (c _ k a).2.2⟩;obtain⟨n,f,g⟩:=c i b e;refine⟨n,eE f hs,?_⟩;unfold sw at g⊢;rw[d _ f (c i b e).2.2];exact g
def bl.fr{w w':υ}{v:τ}{L:E Wh}(h:bl w v L){M:O->Prop}(hM:∀k,k<w.heap.size->M k->¬sw w k)(f:Fr M w w'):bl w' v L:=h.kept f.size λk a b=>f.block k a λc=>hM k a c b
def bl.below{w w':υ}{v:τ}{L:E Wh}(h:bl w v L)(f:Fr (aq w) w w'):bl w' v L:=h.fr (λ_ a b=>aO b (Nat.not_le.2 a)) f
def bl.of{ν:Nu}{i n:O}{v:τ}{c:χ O}{L:E Wh}{w:υ}(m:n=L.length)(h:VR ν (.sl i 9 0 0 n c) v)(o:BR ν i (.row ε n 9 (J (Y L)) 112) w)(q:∀b,ν i=γ b->b.n<w.heap.size):bl w v L:=by
 subst m;rcases o with⟨a,_⟩|⟨b,l,y,r,a,k,e,f,g⟩
 ·cases a
 obtain⟨_,_,rfl,_⟩:=e rfl;refine⟨λj=>if j=0 then ν i else ζ,λj s d=>?_,?_,?_⟩
 ·simp only at d
  split at d
  ·have:=q s d
   rw[a]at d;cases d;exact⟨by assumption,this,_,_,k⟩
  ·cases d
 ·simp only[VR]at h⊢
  obtain⟨p,t,a,_,u,f⟩:=h;exact⟨p,t,a,by simp,u,λx=>let⟨b,g,e⟩:=f x;⟨b,by simp[g],e⟩⟩
 ·exact .inr ⟨b,l,_,r,by simp[a],k,by simp,f,g⟩
def bl.lt{w:υ}{v:τ}{L:E Wh}(h:bl w v L):∃ν:Nu,(∀i b,ν i=γ b->i<1/\b.n<w.heap.size)/\VR ν (.sl 0 9 0 0 L.length ζ) v/\BR ν 0 (.row η L.length 9 (J (Y L)) 112) w:=by obtain⟨ν,a,d,e⟩:=h;exact⟨ν,λi b c=>⟨by have:=(a i b c).1;omega,(a i b c).2.1⟩,d,e⟩
def Dd{ν:Nu}{a b:AV}{v:τ}(h:VR ν (.Ψ [a,b]) v):∃x y,v=.tuple #[x,y]/\VR ν a x/\VR ν b y:=by
 simp only[VR]at h;obtain⟨l,rfl,h⟩:=h
 match l,h with
 |[x,y],h=>simp only[ax]at h;exact⟨x,y,rfl,h.1,h.2.1⟩
def vV{ν:Nu}{x y:τ}(h:VR ν (.v x) y):y=x:=by simpa only[VR]using h
def eX(w:υ)(b:κ)(T:E Wh)(e:Ending)(w':υ):Prop:=∃s,e=.returned (.tuple #[s,.bool b])/\(b=ε->bl w' s T)/\Fr (aq w) w w'
def tG{w w':υ}{base:O}{T:E Wh}{a:Nu}{v:τ}(d:VR a (.Ψ [.sl base 9 0 0 T.length (γ T.length),.v (.bool ε)]) v)(c:BR a base (.row ε T.length 9 (J (Y T)) 112) w')(e:∀b,a base=γ b->w.heap.size<=b.n/\b.n<w'.heap.size)(f:Fr (aq w) w w'):eX w ε T (.returned v) w':=by obtain⟨x,y,rfl,g,h⟩:=Dd d;rw[vV h];exact⟨x,rfl,λ_=>.of rfl g c λb c=>(e b c).2,f⟩
def tH{w w':υ}{T:E Wh}{a:Nu}{x:AV}{v:τ}(b:VR a (.Ψ [x,.v (.bool η)]) v)(c:Fr (aq w) w w'):eX w η T (.returned v) w':=by obtain⟨x,y,rfl,e,d⟩:=Dd b;rw[vV d];exact⟨x,rfl,λh=>(by cases h),c⟩
def vW{ν:Nu}:∀l:E τ,ax ν (l.map .v) l
 |[]=>trivial
 |_::l=>⟨rfl,vW l⟩
def mZ{f:bq}{S:Spec}(h:au θ f S){δ:Delta}{w:υ}{v:τ}{L:E Wh}(vs:E τ)(g:bl w v L)(k:S (.sl 0 9 0 0 L.length ζ::vs.map .v) [.row η L.length 9 (J (Y L)) 112] 1=γ δ)(l:aJ δ.ap=ε)(m:δ.put=[])(n:δ.rd=[0])(o:aY (aq w) w):aH θ f (v::vs).toArray w λe w'=>∃x a,e=.returned x/\VR a δ.val x/\(∀(j:O) b,δ.new[j]?=γ b->BR a (1+j) b w')/\(∀(j:O) b,j<δ.new.length->a (1+j)=γ b->w.heap.size<=b.n/\b.n<w'.heap.size)/\Fr (aq w) w w':=by obtain⟨s,p,q,r⟩:=g.lt;refine h.down k l m (vals:=v::vs) ⟨q,vW vs⟩ (λi d=>?_) p o;rw[n]at d;obtain rfl:=mN.1 d;exact r
def xf{f:bq}{S:Spec}(h:au θ f S){δ:Delta}{w:υ}(vs:E τ)(g:S (vs.map .v) [] 0=γ δ)(k:aJ δ.ap=ε)(l:δ.put=[])(m:δ.rd=[])(n:aY (aq w) w):aH θ f vs.toArray w λe w'=>∃x a,e=.returned x/\VR a δ.val x/\(∀(j:O) b,δ.new[j]?=γ b->BR a (0+j) b w')/\(∀(j:O) b,j<δ.new.length->a (0+j)=γ b->w.heap.size<=b.n/\b.n<w'.heap.size)/\Fr (aq w) w w':=by refine h.down (ν:=λ_=>ζ) g k l (vals:=vs) (vW vs) (λi d=>?_) (λi b o=>by cases o) n;rw[m]at d;cases d
def dU(base:O)(rd:E O)(b:κ)(T:E Wh)(ob:E κ):Delta:={val:=.Ψ [.sl base 9 0 0 T.length (γ T.length),.v (.bool b)],rd:=rd,put:=[],new:=[.row η T.length 9 (J (Y T)) 112],ap:=ob}
abbrev ex(L:E Wh):E Wh:=V (ξ λq=>J (Y L) (0+q)) L.length
def ic(L:E Wh):ex L=L:=U6 L _ rfl
abbrev lN(L:E Wh):E κ:=[ak L.length (λq=>J (Y L) (0+q)),ο (L.length<=2^38)]
def mr{L:E Wh}(d:L.length<=12)(ob:E κ):aJ (Θ (0+L.length) L.length::(lN L++ob))=aJ ob:=by
 have a:Θ (0+L.length) L.length=ε:=by rw[aT];omega
 have b:ak L.length (λq=>J (Y L) (0+q))=ε:=by rw[bV];exact bw _ _
 have c:ο (L.length<=2^38)=ε:=bA (by omega);rw[oD,oD,mO,a,b,c];rfl
def f_(w:υ)(x:τ)(e:Ending)(w':υ):Prop:=e=.returned x/\Fr (aq w) w w'
def YN{f:bq}{S:Spec}(h:au θ f S){δ:Delta}{x:τ}{w:υ}{v:τ}{L:E Wh}(vs:E τ)(a:bl w v L)(b:S (.sl 0 9 0 0 L.length ζ::vs.map .v) [.row η L.length 9 (J (Y L)) 112] 1=γ δ)(c:δ.val.ip=γ x)(d:aJ δ.ap=ε)(g:δ.put=[])(i:δ.rd=[0])(j:aY (aq w) w):aH θ f (v::vs).toArray w (f_ w x):=by refine(mZ h vs a b d g i j).mono ?_;rintro e n ⟨y,k,rfl,l,_,_,m⟩;rw[iP c l];exact⟨rfl,m⟩
def Hf{f:bq}{S:Spec}(h:au θ f S){δ:Delta}{x:τ}{w:υ}(vs:E τ)(a:S (vs.map .v) [] 0=γ δ)(b:δ.val.ip=γ x)(c:aJ δ.ap=ε)(d:δ.put=[])(g:δ.rd=[])(i:aY (aq w) w):aH θ f vs.toArray w (f_ w x):=by refine(xf h vs a c d g i).mono ?_;rintro e m ⟨y,j,rfl,k,_,_,l⟩;rw[iP b k];exact⟨rfl,l⟩
section
section
variable {P:aF} {ops:Array Oper} {md:Region.Mode} {I:υ->Prop}
def Jp(P:aF)(I:υ->Prop)(N:O)(dst:χ Tmp)(v:τ):Result Next->Prop
 | .ok (.value u) a=>(∀d,dst=γ d->d<N->u=v)/\I a
 | .ok .skip a=>(∀d,dst=γ d->d<N->undef=v)/\I a
 | .ok (.enter f args) a=>aH P f args a λe c=>∃u,e=.returned u/\(∀d,dst=γ d->d<N->u=v)/\I c
 | .ok (.row g args) a=>Rows P g args a λu c=>(∀d,dst=γ d->d<N->u=v)/\I c
 |_=>jc
def GM{a:Act}{N:O}(f:a.tmps.size=N){dst:χ Tmp}{u v:τ}(h:∀d,dst=γ d->d<N->u=v):a.put dst u=a.put dst v:=by
 cases dst with
 |none=>rfl
 |some d=>
  by_cases c:d<N
  ·rw[h d rfl c]
  ·have e:a.tmps.size<=d:=by rw[f];exact aai c
   simp only[Act.put];rw[atq e,atq e]
def QP(P:aF)(ops:Array Oper)(I:υ->Prop)(o:Oper)(v:τ)(a:Act):Prop:=
 (nK o (yielded ops a.tmps)=ε/\∀w,I w->Jp P I a.tmps.size o.dst v ((execOp a.eval o).run P w))\/
 (nK o (yielded ops a.tmps)=η/\v=undef)
def QP.wpOp{i:O}{o:Oper}{v:τ}{a:Act}{w:υ}{Q:Exit->Act->υ->Prop}{c:Act->υ->Prop}(p:ops[i]?=γ o)(q:QP P ops I o v a)(n:I w)(h:∀w',I w'->c (a.put o.dst v) w'):Go.wpOp P ops Q i c a w:=by
 unfold Go.wpOp;simp only[p];rcases q with⟨j,d⟩|⟨j,rfl⟩
 ·simp only[j,if_true]
  refine .inl ?_;have d:=d w n;unfold Oper.wp;generalize(execOp a.eval o).run P w=r at*;cases r with
  |ok x w'=>
   cases x<;>simp only[Jp]at d<;>simp only[Oper.upon]
   case value u=>rw[GM rfl d.1];exact h _ d.2
   case skip=>rw[GM rfl d.1];exact h _ d.2
   case enter f args=>refine d.mono ?_;rintro e k ⟨u,rfl,l,g⟩;simp only;rw[GM rfl l];exact h _ g
   case row row args=>refine d.mono ?_;rintro u k ⟨l,g⟩;rw[GM rfl l];exact h _ g
  |halt x w'=>simp only[Jp]at d
 ·simp only[j,r6,sh]
  exact h w n
end
end
abbrev Cx:τ:=.iface 52 (.agg #[])
abbrev oX:Ending:=.panicked [{v:=Cx,recovered:=η}]
def td(w:υ):aH θ 74 #[.bool ε] w λe w'=>e=.returned (.tuple #[])/\w'=w:=by
 have mixed:=mixed
 go_enter P8,ntmps74
 go_wp2
 go_end0
 exact⟨rfl,rfl⟩
def tc(w:υ):aH θ 74 #[.bool η] w λe w'=>e=oX/\w'=w:=by
 have mixed:=mixed
 go_enter P8,ntmps74
 go_wp2
 exact⟨rfl,rfl,rfl⟩
def cW(c:ψ):E ψ->E (E ψ)
 |[]=>[[]]
 |b::l=>if b=c then[]::cW c l else match cW c l with
  |x::a=>(b::x)::a
  |[]=>[[b]]
def RG(c:ψ):∀l:E ψ,cW c l≠ []
 |[]=>by simp[cW]
 |b::l=>by
  unfold cW;split
  ·simp
  ·split<;>simp
def An{c:ψ}:∀l:E ψ,c∉l->cW c l=[l]
 |[],_=>rfl
 |b::l,h=>by simp only[dw,ue]at h;unfold cW;rw[bi (λe=>h.1 e.symm),An l h.2]
def Am{c:ψ}:∀(x r:E ψ),c∉x->cW c (x++c::r)=x::cW c r
 |[],r,_=>by rw[mO,cW,aP rfl]
 |b::x,r,h=>by simp only[dw,ue]at h;rw[oD,cW,bi (λe=>h.1 e.symm),Am x r h.2]
def JV{c:ψ}:∀(x:E ψ)(xs:E (E ψ)),(∀y∈x::xs,c∉y)->cW c (iD (x::xs) [c])=x::xs
 |x,[],h=>by rw[Lib.join_one];exact An x (h x je)
 |x,y::a,h=>by
  have b:=JV y a λz d=>h z (lB _ d)
  rw[tR]at b;rw[tR];have e:lY [c] (y::a)=c::(y++lY [c] a):=by simp[lY]
  rw[e,Am x _ (h x je),b]
def Uk{c:ψ}:∀l:E ψ,c∉l->Dv l [c]= -1
 |[],_=>rfl
 |b::l,h=>by
  simp only[dw,ue]at h;have a:([c]:E ψ).isPrefixOf (b::l)=η:=by simp[Z5,h.1]
  rw[Dv,a,Uk l h.2];rfl
def Lt{c:ψ}:∀(x r:E ψ),c∉x->Dv (x++c::r) [c]=(x.length:Z)
 |[],r,_=>by rw[mO,Dv];simp[Z5]
 |b::x,r,h=>by
  simp only[dw,ue]at h;have a:([c]:E ψ).isPrefixOf (b::(x++c::r))=η:=by simp[Z5,h.1]
  rw[oD,Dv,a,Lt x r h.2];have:((x.length:Z)== -1)=η:=by rw[dT];omega
  rw[this];simp
def RO(c:ψ):∀l:E ψ,c∈l->∃x r,l=x++c::r/\c∉x
 |b::l,h=>by
  by_cases e:b=c
  ·exact⟨[],l,by rw[e];rfl,by simp⟩
  ·have:c∈l:=by
    rcases dw.1 h with h|h
    ·exact aO h.symm e
    ·exact h
   obtain⟨x,r,a,d⟩:=RO c l this;exact⟨b::x,r,by rw[a];rfl,by simp only[dw,ue];exact⟨λf=>e f.symm,d⟩⟩
def XK{c:ψ}:∀(k:O)(s:E ψ),s.count c=k->ZU [c] 0 k s=cW c s
 |0,s,h=>by rw[ZU,An s (Dz.1 h)]
 |k+1,s,h=>by
  have b:c∈s:=by rw[<-List.count_pos_iff];omega
  obtain⟨x,r,rfl,a⟩:=RO c s b;have d:r.count c=k:=by rw[List.count_append,List.count_cons_self,Dz.2 a]at h;omega
  rw[ZU,Lt x r a,Am x r a];have:((x.length:Z)== -1)=η:=by rw[dT];omega
  rw[this];simp only[r6,sh,cY,iu,List.take_left,Z6];rw[show List.drop (x.length+1) (x++c::r)=r from by rw[<-zx,List.drop_left];rfl,XK k r d]
def adD{c:ψ}{l:E ψ}(h:c∉l):e_ l [c]=(l,[],η):=by rw[e_,Uk l h];rfl
def RN{c:ψ}{x r:E ψ}(h:c∉x):e_ (x++c::r) [c]=(x,r,ε):=by rw[e_,Lt x r h,aP (by omega)];simp only[cY,List.take_left,Z6,cG,aa,bo];rw[<-zx,List.drop_left];rfl
def pU(b:ψ):Prop:=48<=b.toNat/\b.toNat<=57
def Ar(u:O):∀b∈gB u,pU b:=by
 induction u using DL with
 |_ u c=>
  have one:∀k,k<10->pU (mQ (48+k)):=λk d=>by
   have:(mQ (48+k)).toNat=48+k:=by rw[Qf];omega
   rw[pU,this];omega
  intro b a;rw[gB]at a;split at a
  ·rename_i h
   simp only[mN]at a;subst a;exact one u h
  ·rename_i h
   rcases List.mem_append.1 a with a|a
   ·exact c (u/10) (by omega) b a
   ·simp only[mN]at a
    subst a;exact one _ (r7 _ (by omega))
def ag5(n:Z):∀b∈bc n,b.toNat=45\/pU b:=by
 intro b a;rw[bc]at a;split at a
 ·rcases dw.1 a with rfl|a
  ·exact .inl rfl
  ·exact .inr (Ar _ b a)
 ·exact .inr (Ar _ b a)
def Lz{c:ψ}(h:c.toNat≠45/\(c.toNat<48\/57<c.toNat))(n:Z):c∉bc n:=λa=>by
 rcases ag5 n c a with e|e
 ·exact h.1 e
 ·unfold pU at e
  omega
def RT(u:O):gB u≠ []:=by rw[gB];split<;>simp
def Wp:∀(c a:E ψ)(acc v:O),we acc c=.ok v->we acc (c++a)=we v a
 |[],a,acc,v,h=>by simp only[we,ZP]at h;rw[h];rfl
 |b::l,a,acc,v,h=>by
  rw[oD];simp only[we]at h⊢;split at h
  ·rename_i d
   rw[aP d];split at h
   ·cases h
   ·rename_i e
    rw[bi e];split at h
    ·cases h
    ·rename_i f
     rw[bi f];exact Wp l a _ v h
  ·cases h
def Wq(u:O)(c:u<10^18):we 0 (gB u)=.ok u:=by
 induction u using DL with
 |_ u b=>
  have one:∀a k,a<10^17->k<10->we a [mQ (48+k)]=.ok (a*10+k):=λa k d f=>by
   have e:(mQ (48+k)).toNat=48+k:=by rw[Qf];omega
   simp only[we,e];rw[aP (by omega),bi (by omega),bi (by omega)]
   congr 1
   omega
  rw[gB];split
  ·rename_i h
   rw[one 0 u (by omega) h,Nat.zero_mul,bF]
  ·rw[Wp _ _ _ _ (b (u/10) (by omega) (by omega)),one _ _ (by omega) (r7 _ (by omega))]
   congr 1
   omega
def abz(n:Z)(i: -10^17<n)(j:n<10^17):Du (bc n)=.ok n:=by
 rw[bc];split
 ·rename_i h
  unfold Du;have e:(45:ψ).toNat=45:=rfl;simp only[e,or_true,if_true];rw[Lib.parseMag,bi (RT _),Wq _ (by omega)];simp only[not_true,false_and,sh,bo];rw[bi (by omega)];simp only[ZP];omega
 ·rename_i h
  have c:=Ar n.toNat;have d:=Wq n.toNat (by omega);have a:=RT n.toNat;cases f:gB n.toNat with
  |nil=>exact aO f a
  |cons b l=>rw[f]at c d;have g:=c b je;unfold pU at g;unfold Du;simp only;rw[bi (by omega),Lib.parseMag,bi (by simp),d];simp only;rw[bi (by omega),bi (by omega)];simp only[ZP];rw[bi (by omega)];omega
def ah_:mJ:=⟨λ|171=>11|243=>38|246=>87|283=>159|284=>160|285=>161|286=>162|129=>226|317=>225|318=>227|319=>228|320=>229|337=>255|338=>256|n=>n,λ|3=>3|9=>9|2=>2|4=>4|171=>169|0=>0|53=>106|37=>32|5=>5|173=>172|212=>228|51=>64|20=>20|213=>229|46=>193|232=>283|233=>284|n=>n,λ|17=>2|18=>6|19=>7|n=>n⟩
def ah9:Go.Proofs.LaysM.n171 θ ah_:=by repeat' (first|kernel_rfl|(intros;kernel_rfl)|decide|constructor)
def bM(n:Z):ρ:=⟨(bc n).toArray⟩
def Se:E τ->χ (τ×E κ)
 |[.int .i64 n]=>γ (.string (bM n),[ο (-9223372036854775808<=n),ο (n<=9223372036854775807)])
 |_=>ζ
def Yk{M:O->Prop}{w:υ}(h:aY M w):O1 θ w "internal/strconv.uint64pow10" .u64 Lib.pow10Tab:=by
 obtain⟨_,l,t,b,a,rfl⟩:=h _ je;have e:θ.globalNamed "internal/strconv.uint64pow10" =γ 2:=by kernel_rfl
 simp only[O1,World.var?,e,Option.bind_some,a]
def SG(w:υ)(k:O)(os:Array Obj):Fr (λ_=>jc) w (HW (w.drewN k) os):=by refine⟨rfl,rfl,rfl,by simp[HW],λi a _=>?_⟩;simp only[HW,World.heap_drewN];rw[Array.getElem?_append_left (by simpa using a)]
def VS:au θ 11 (aS Se):=by
 refine nl (λargs w=>enters 11 f11 func11 rfl args w) λh x i a b w c=>?_
 unfold Se at a;split at a
 ·rename_i n
  simp only[ar,cG]at a;obtain⟨rfl,rfl⟩:=a;obtain⟨d,f⟩:=Cd b;refine(Any.strconv_Itoa ah9 n (aL d) (aL f) w (Yk c)).mono ?_;rintro e j ⟨rfl,k,g,rfl⟩;exact⟨rfl,SG w k g⟩
 ·cases a
def oY(a:Z->ρ)(p:Z->κ):E τ->χ (τ×E κ)
 |[.int .i64 n]=>γ (.string (a n),[p n])
 |_=>ζ
def AY(a:Z->ρ)(p:Z->κ):aE:=ext g0 7 (aS (oY a p))
def aqM(b:Z->ρ)(p:Z->κ)(n:Z):let d:=(aj .i64 ((48:Z)+Int.tmod n (10:Z)));let e:=(aj .i64 (Int.tdiv n (10:Z)));let f:=(aj .i64 ((48:Z)+n));let k:=(tE [rX (aj .u8 d)]);let c:=(0:Z);let g:=(56:ψ);let h:=(55:ψ);let i:=(50:ψ);let a:=(51:ψ);let j:=(aj .i64 (c-n));ad θ (AY b p) K 100 Tryz.f7 [.v (ι n)] [] ed
 =bif ο (n<(-9223372036854775807:Z))then rO [AV.v (.string (a8 (bj [(45:ψ),(57:ψ),i,i,a,a,h,i,(48:ψ),a,(54:ψ),g,(53:ψ),(52:ψ),h,h,(53:ψ),g,(48:ψ),g])))] []else bif ο (n<c)then Ω [p j,Θ (1+aW (b j)) 9223372036854775807] (rO [AV.v (.string (ba (a8 (bj [(45:ψ)])) (b j)))] [])else bif ο (n<(10:Z))then Ω [ο (c<=aj .u8 f),ο (aj .u8 f<(256:Z))] (rO [AV.v (.string (tE [rX (aj .u8 f)]))] [])else Ω [p e,ο (c<=aj .u8 d),ο (aj .u8 d<(256:Z)),Θ (aW (b e)+aW k) 9223372036854775807] (rO [AV.v (.string (ba (b e) k))] []):=by intros;kernel_rfl
def Gq:∀(k u:O),u<10^(k+1)->Lib.nDigits u<=k+1
 |0,u,h=>by rw[Lib.nDigits_small (by simpa using h)];omega
 |k+1,u,h=>by
  by_cases a:u<10
  ·rw[Lib.nDigits_small a];omega
  ·rw[Lib.nDigits_big a]
   have:=Gq k (u/10) (by rw[Nat.pow_succ]at h;omega);omega
def nX{n:Z}(a: -10000000000000000000<n)(b:n<10000000000000000000):(bM n).size<=20:=by
 simp only[bM,aW,List.size_toArray,bc];split
 ·rw[cn,HB]
  have:=Gq 18 n.natAbs (by omega);omega
 ·rw[HB]
  have:=Gq 18 n.toNat (by omega);omega
def adP{n:Z}(h:n<0):bM n=ba ⟨⟨[45]⟩⟩ (bM (-n)):=by
 have a:bc n=45::gB n.natAbs:=by rw[bc,aP h]
 have b:bc (-n)=gB n.natAbs:=by rw[bc,bi (by omega),show(-n).toNat=n.natAbs by omega]
 simp only[bM,ba,a,b];exact(Zt [45] (gB n.natAbs)).symm
def YK{n:Z}(a:0<=n)(b:n<10):rX (oC.wrap (48+n))=mQ (48+n.toNat):=by
 have:oC.wrap (48+n)=48+n:=by rw[Dt];omega
 rw[this,rX]
 congr 1
 omega
def adQ{n:Z}(a:0<=n)(b:n<10):bM n=tE [rX (oC.wrap (48+n))]:=by rw[YK a b,bM,tE,bc,bi (by omega),Lib.decDigits_one (by omega)]
def adO{n:Z}(e:10<=n):bM n=ba (bM (n.tdiv 10)) (tE [rX (oC.wrap (48+n.tmod 10))]):=by
 have a:n.tdiv 10=n/10:=HA (by omega);have b:n.tmod 10=n%10:=v_ (by omega);rw[a,b,YK (by omega) (by omega)];have c:bc n=gB (n/10).toNat++[mQ (48+(n%10).toNat)]:=by rw[bc,bi (by omega),gB,dif_neg (by omega),show n.toNat/10=(n/10).toNat by omega,show n.toNat%10=(n%10).toNat by omega]
 have d:bc (n/10)=gB (n/10).toNat:=by rw[bc,bi (by omega)]
 simp only[bM,ba,tE,c,d];exact(Zt _ _).symm
def J4{p q:Z->κ}(i:au θ 7 (aS (oY bM p)))(r:∀n,q n=ε-> -9223372036854775807<=n/\n<=9223372036854775807)(s:∀n,q n=ε->n<0->p (-n)=ε)(t:∀n,q n=ε->10<=n->p (n.tdiv 10)=ε):au θ 7 (aS (oY bM q)):=by
 refine en (n:=100) (az bt i) func7 rfl λw x y d u=>?_
 unfold oY at d;split at d
 ·rename_i n
  simp only[ar,cG]at d;obtain⟨rfl,rfl⟩:=d;have j:q n=ε:=by simpa[aJ]using u
  obtain⟨z,A⟩:=r n j;have e:=aqM bM p n;unfold AY at e;simp only[eD,List.map_nil];rw[e];have g:∀{x:Z},-9223372036854775808<=x->x<=9223372036854775807->aj a7 x=x:=λa b=>bR ⟨a,b⟩
  have m:∀{x:Z},0<=x->x<10->0<=aj oC (48+x)/\aj oC (48+x)<256:=λ_ _=>by rw[Dt];omega
  suffices h:aC _ (nO (.string (bM n)))from⟨h.out⟩
  refine ay (λo=>?_) λ_=>ay (λc=>?_) λc=>ay (λf=>?_) λf=>?_
  ·have o:=aL o
   omega
  ·have c:=aL c
   rw[g (by omega) (by omega),Int.zero_sub];have v:=nX (n:= -n) (by omega) (by omega);refine ag (by simp only[F,ah,aa,aT];exact⟨s n j c,by omega⟩) (Φ ⟨_,rfl,?_⟩);rw[adP c];rfl
  ·have c:=cE c
   have f:=aL f;rw[g (by omega) (by omega)];obtain⟨k,l⟩:=m (x:=n) (by omega) (by omega);refine ag (by simp only[F,ah,aa,aB];exact⟨k,l⟩) (Φ ⟨_,rfl,?_⟩);rw[adQ (by omega) (by omega)];rfl
  ·have c:=cE c
   have f:=cE f;have B:n.tdiv 10=n/10:=HA (by omega);have C:n.tmod 10=n%10:=v_ (by omega);have i:=t n j (by omega);rw[g (x:=n.tdiv 10) (by omega) (by omega),g (x:=48+n.tmod 10) (by omega) (by omega)];obtain⟨k,l⟩:=m (x:=n.tmod 10) (by omega) (by omega);have v:=nX (n:=n.tdiv 10) (by omega) (by omega);have D:(tE [rX (aj oC (48+n.tmod 10))]).size=1:=rfl;refine ag (by simp only[F,ah,aa,aB,aT];exact⟨i,k,l,by omega⟩) (Φ ⟨_,rfl,?_⟩);rw[adO (n:=n) (by omega)];rfl
 ·cases d
def rq(k:O)(n:Z):κ:=ο (0<=n/\n<10^k/\n<=9223372036854775807)
def adR:au θ 7 (aS (oY bM λ_=>η)):=by
 refine nl (λargs w=>enters 7 Tryz.f7 func7 rfl args w) λc x d a b=>?_
 unfold oY at a;split at a
 ·simp only[ar,cG]at a
  obtain⟨rfl,rfl⟩:=a;simp[aJ]at b
 ·cases a
def RU:∀k:O,au θ 7 (aS (oY bM (rq (k+1))))
 |0=>J4 adR (λn h=>by simp only[rq,aB]at h;omega) (λn h=>by simp only[rq,aB]at h;omega) (λn h=>by simp only[rq,aB]at h;omega)
 |k+1=>J4 (RU k) (λn h=>by simp only[rq,aB]at h;omega) (λn h=>by simp only[rq,aB]at h;omega) (λn h a=>by simp only[rq,aB]at h⊢;rw[Int.pow_succ]at h;have b:n.tdiv 10=n/10:=HA (by omega);omega)
def Ch:au θ 7 (aS (oY bM λn=>ο (-9223372036854775807<=n/\n<=9223372036854775807))):=
 J4 (RU 19) (λn h=>by simpa using h) (λn h a=>by simp only[rq,aB]at h⊢;omega) (λn h a=>by simp only[rq,aB]at h⊢;have b:n.tdiv 10=n/10:=HA (by omega);omega)
def UU:mJ:=⟨λ|156=>141|165=>209|166=>9|169=>12|240=>17|241=>247|276=>61|277=>274|n=>n,λ|31=>35|9=>9|3=>3|4=>4|0=>0|20=>20|72=>34|76=>39|70=>31|37=>32|75=>38|127=>56|164=>96|5=>5|80=>41|n=>n,λ|n=>n⟩
def Br:Go.Proofs.Lays.n156 θ UU:=by repeat' (first|kernel_rfl|(intros;kernel_rfl)|decide|constructor)
def AG:Builder.Extra θ UU:=by repeat' (first|kernel_rfl|(intros;kernel_rfl)|decide|constructor)
def RH.quiet{M:O->Prop}{ν:Nu}{H:O->AB}{w w':υ}(h:RH M ν H w)(f:Fr (λ_=>jc) w w'):RH M ν H w':=
 ⟨λi=>(h.br i).of_block λk a _=>f.block _ (h.lt i k a) λx=>x,h.sep,h.own,λi b c=>eE (h.lt i b c) f.size,h.eC.block λk a _=>f.block k a λx=>x⟩
def y':E τ->ρ
 |[.string s]=>s
 |_=>⟨#[]⟩
def xN:E τ->κ
 |[.string _]=>ε
 |_=>η
def nP(m:O)(g:O->E τ):κ:=(dH m).all λj=>xN (g j)
def strs(g:O->E τ)(m:O):E ρ:=(dH m).map λj=>y' (g j)
def m_(xs:E ρ)(a:ρ):ρ:=⟨(iD (xs.map (·.data.toList)) a.data.toList).toArray⟩
def Ev{m:O}{g:O->E τ}(h:nP m g=ε){j:O}(a:j<m):g j=[.string (y' (g j))]:=by
 have:=bX.1 h j (List.mem_range.2 a)
 match b:g j,this with
 |[.string s],_=>rfl
def I2(b:E ρ->ρ->ρ):E SA->χ FR
 |[.row m g,.v (.string a)]=>γ {val:=.v (.string (b (strs g m) a)),ap:=[nP m g,Θ m 1048576,Θ (b (strs g m) a).size 140737488355328]}
 |_=>ζ
def akz:au θ 141 (am [.rd 1 9,.val] (I2 m_)):=by
 refine nk enters func141 rfl λQ X k L=>?_
 unfold I2 at k;split at k
 ·rename_i m g a
  simp only[ar]at k;subst k;simp only[F,ah,aa,aT]at L;obtain⟨R,hm,S⟩:=L;refine⟨_,ab.refl _,λM n w v hM t z o=>?_⟩;have q:∀d,Fr (λ_=>jc) w d->hP (dV (bI [Md.rd 1 9,.val] [SA.row m g,.v (.string a)] []) {val:=.v (.string (m_ (strs g m) a)),ap:=[nP m g,Θ m 1048576,Θ (m_ (strs g m) a).size 140737488355328]}) M v w (.returned (.string (m_ (strs g m) a))) d:=λd f=>⟨_,_,bK [Md.rd 1 9,.val] [SA.row m g,.v (.string a)],v,rfl,⟨_,rfl,rfl,ab.refl _⟩,by simp only[VR],z.quiet f,f.mono λ_ _ h=>h.elim,Le.refl _,o⟩
  match n,t with
  |[x,y],t=>
   simp only[hZ,ax,VR,aa]at t;obtain⟨⟨p,c,rfl,_,hc,T⟩,rfl⟩:=t;have N:=z.br 0;simp only[bK,List.getD_cons_zero]at N;have i:m=0->aH θ 141 #[.slice p m c,.string a] w (hP (dV (bI [Md.rd 1 9,.val] [SA.row m g,.v (.string a)] []) {val:=.v (.string (m_ (strs g m) a)),ap:=[nP m g,Θ m 1048576,Θ (m_ (strs g m) a).size 140737488355328]}) M v w):=by rintro rfl;refine(Any.strings_Join_none Br AG p c a w).mono ?_;rintro e d ⟨rfl,rfl⟩;exact q d (Fr.refl _ _)
   by_cases P:m=0
   ·exact i P
   ·obtain⟨b,r,C⟩:=T (by omega)
    subst C;rcases N with⟨_,u,_⟩|⟨b',l,t',fz,u,U,_,hn,W⟩
    ·exact aO u P
    ·rw[r]at u
     cases u;have s:(strs g m).length=m:=by simp[strs]
     have:=Any.strings_Join Br AG b.n b.o c (strs g m) a w (λj x D=>?_) (z.lt 0 b r) (by omega) (by omega) (by simpa[m_,aW]using S)
     ·rw[s]at this
      refine this.mono ?_;rintro e d ⟨rfl,G⟩;exact q d (Below.fr G)
     ·have H:j<m:=by have:=(eV.1 D).1;omega
      have I:x=y' (g j):=by simp only[strs,List.getElem?_map,List.getElem?_range H,Option.map_some,ar]at D;exact D.symm
      rw[I,oU U];have:=(W j H).2 0 (by omega);simp only[Nat.mul_one,iu]at this;rw[this,Ev R H];rfl
 ·cases k
def ae1(a:Z->ρ):E τ->χ (τ×E κ)
 |[.int .i64 n]=>γ (.string (a n),[ο (-9223372036854775808<=n),ο (n<=9223372036854775807)])
 |_=>ζ
def F5(a:Z->ρ)(b:E ρ->ρ->ρ):aE:=ext (ext g0 11 (aS (ae1 a))) 141 (am [.rd 1 9,.val] (I2 b))
def et(ws:E ρ)(j:O):ρ:=ws.getD j ⟨#[]⟩
def ey(ws:E ρ):O->E τ:=λj=>[.string (et ws j)]
abbrev BY:Ex->E O:=cx [3,15,16,17] [3] [2]
abbrev sX(m:O)(f:ω)(t:ae)(n:O)(ws:E ρ):E AB:=[.row η m 9 (J f) t,.row ε n 1 (ey ws) 9]
abbrev C5(m n i:O):E AV:=[.own 1 n,.sl 0 9 0 0 m ζ,.v (ι m),.v (ι i)]
def ano(b:Z->ρ)(h:E ρ->ρ->ρ)(m:O)(f:ω)(t:ae)(n:O)(ws:E ρ)(i:O):let c:=(-9223372036854775808:Z);let d:=(9223372036854775807:Z);let e:=(↑i:Z);let j:=AB.row η m 9 (J f) t;let a:=(0+a5 e);let k:=(ba (b (f a 0)) (a8 (bj [(58:ψ)])));let g:=(h (strs (λq=>[cZ (bif Δ q 7 then bif Δ q 6 then bif Δ q 5 then bif Δ q 4 then bif Δ q 3 then bif Δ q 2 then bif Δ q 1 then bif Δ q 0 then a8 (bj [])else b (f a 1)else b (f a 2)else b (f a 3)else b (f a 4)else b (f a 5)else b (f a 6)else b (f a 7)else b (f a 8))]) 8) (a8 (bj [(44:ψ)])));a0 θ (F5 b h) 200 K (a4 0 Py) (aw 0 47 ((BY .normal).zip (C5 m n i))) (sX m f t n ws) (cJ 47 BY 1)
 =bif ο (e<(m:Z))then Ω [ο (e<(m:Z)),ο (0+a5 e<m),ο (c<=f a 1),ο (f a 1<=d),ο (c<=f a 2),ο (f a 2<=d),ο (c<=f a 3),ο (f a 3<=d),ο (c<=f a 4),ο (f a 4<=d),ο (c<=f a 5),ο (f a 5<=d),ο (c<=f a 6),ο (f a 6<=d),ο (c<=f a 7),ο (f a 7<=d),ο (c<=f a 8),ο (f a 8<=d),ο (c<=f a 0),ο (f a 0<=d),Θ (aW (b (f a 0))+1) 9223372036854775807,Θ (aW g) 140737488355328,Θ (aW k+aW g) 9223372036854775807,Θ n n,Θ (n+1) 549755813888] (ao.out .normal [AV.own 1 (n+1),AV.sl 0 9 0 0 m ζ,vI (m:Z),vI (aj .i64 (e+(1:Z)))] [j,AB.row ε (n+1) 1 (λq=>[cZ (bif Δ q n then et ws q else ba k g)]) 9])else ao.out (Ex.exit 0) [AV.own 1 n] [j,AB.row ε n 1 (ey ws) 9]:=by intros;kernel_rfl
noncomputable abbrev L5(m:O)(f:ω)(t:ae)(ws:E ρ):O->χ Sum:=bJ 0 (bD 47 (BY .normal) 1 (C5 m 0 0) (sX m f t 0 []) (λa=>a .normal (aw 0 47 [(3,.own 1 m)]) (sX m f t m ws)))
def ar9(d:Z->ρ)(b:E ρ->ρ->ρ)(m:O)(f:ω)(t:ae)(ws:E ρ):let c:=(b (strs (ey ws) m) (a8 (bj [(32:ψ)])));let a:=AB.row η m 9 (J f) t;ad θ (F5 d b) (L5 m f t ws) 200 Py [.sl 0 9 0 0 m ζ] [.row η m 9 (J f) t] (af 1)
 =bif (m:Z)==(0:Z)then rO [AV.v (.string (a8 (bj [(45:ψ)])))] [a]else Ω [ο ((m:Z)<=(1099511627776:Z)),cw ([AV.own 1 0,AV.sl 0 9 0 0 m ζ,vI (m:Z),vI 0]=C5 m 0 0/\ab [a,AB.row ε 0 1 (λ_=>[cZ (a8 (bj []))]) 9] (sX m f t 0 [])),Θ m m,nP m (ey ws),Θ m 1048576,Θ (aW c) 140737488355328] (rO [AV.v (.string c)] [a]):=by intros;kernel_rfl
def arW(a:Z->ρ)(p:Z->κ)(c d e f g h i j k:Z):let b:=(a8 (bj [(44:ψ)]));let s:=(ba (a c) (a8 (bj [(58:ψ)])));let l:=(ba s (a d));let m:=(ba (ba l b) (a e));let t:=(ba (ba m b) (a f));let u:=(ba t b);let n:=(ba u (a g));let o:=(ba (ba n b) (a h));let q:=(ba (ba o b) (a i));let r:=(ba (ba q b) (a j));ad θ (AY a p) K 200 f166 [.v (.agg ⟨[ι c,ι d,ι e,ι f,ι g,ι h,ι i,ι j,ι k]⟩)] [] ed
 =Ω [p c,Θ (aW (a c)+1) 9223372036854775807,p d,Θ (aW s+aW (a d)) 9223372036854775807,Θ (aW l+1) 9223372036854775807,p e,Θ (aW (ba l b)+aW (a e)) 9223372036854775807,Θ (aW m+1) 9223372036854775807,p f,Θ (aW (ba m b)+aW (a f)) 9223372036854775807,Θ (aW t+1) 9223372036854775807,p g,Θ (aW u+aW (a g)) 9223372036854775807,Θ (aW n+1) 9223372036854775807,p h,Θ (aW (ba n b)+aW (a h)) 9223372036854775807,Θ (aW o+1) 9223372036854775807,p i,Θ (aW (ba o b)+aW (a i)) 9223372036854775807,Θ (aW q+1) 9223372036854775807,p j,Θ (aW (ba q b)+aW (a j)) 9223372036854775807,Θ (aW r+1) 9223372036854775807,p k,Θ (aW (ba r b)+aW (a k)) 9223372036854775807] (rO [AV.v (.string (ba (ba r b) (a k)))] []):=by intros;kernel_rfl
def Km(j:Wh->ρ)(e9:Wh->κ):E τ->χ (τ×E κ)
 |[.agg ⟨[.int .i64 a,.int .i64 b,.int .i64 c,.int .i64 d,.int .i64 e,.int .i64 f,.int .i64 g,.int .i64 h,.int .i64 i]⟩]=>γ (.string (j ⟨a,⟨b,c,d,e,f,g,h,i⟩⟩),[e9 ⟨a,⟨b,c,d,e,f,g,h,i⟩⟩])
 |_=>ζ
def FX(a:Wh->ρ)(e9:Wh->κ):aE:=ext g0 166 (aS (Km a e9))
abbrev BV:Ex->E O:=cx [0,3,4] [3] [2]
abbrev uX(m:O)(f:ω)(t:ae):E AB:=[.row η m 9 (J f) t]
abbrev C3(m:O)(s:ρ)(i:O):E AV:=[.sl 0 9 0 0 m ζ,.v (.string s),.v (ι i)]
def anh(d:Wh->ρ)(e9:Wh->κ)(m:O)(f:ω)(t:ae)(s:ρ)(i:O):let b:=(↑i:Z);let e:=[AB.row η m 9 (J f) t];let g:=(ba s (a8 (bj [(32:ψ)])));let h:=vI (aj .i64 (b+(1:Z)));let j:=ο (0+a5 b<m);let k:=ο (b<(m:Z));let l:=AV.sl 0 9 0 0 m ζ;let a:=(0+a5 b);let c:=(Wh.mk (f a 0) (Cy.mk (f a 1) (f a 2) (f a 3) (f a 4) (f a 5) (f a 6) (f a 7) (f a 8)));a0 θ (FX d e9) 100 K (a4 0 PP) (aw 0 26 ((BV .normal).zip (C3 m s i))) (uX m f t) (cJ 26 BV 1)
 =bif ο (b<(m:Z))then bif ο (b> (0:Z))then Ω [Θ (aW s+1) 9223372036854775807,k,j,e9 c,Θ (aW g+aW (d c)) 9223372036854775807] (ao.out .normal [l,AV.v (.string (ba g (d c))),h] e)else Ω [k,j,e9 c,Θ (aW s+aW (d c)) 9223372036854775807] (ao.out .normal [l,AV.v (.string (ba s (d c))),h] e)else ao.out (Ex.exit 0) [AV.v (.string s)] e:=by intros;kernel_rfl
noncomputable abbrev L1(m:O)(f:ω)(t:ae)(s:ρ):O->χ Sum:=bJ 0 (bD 26 (BV .normal) 1 (C3 m ⟨#[]⟩ 0) (uX m f t) (λa=>a .normal (aw 0 26 [(3,.v (.string s))]) (uX m f t)))
def arX(c:Wh->ρ)(e9:Wh->κ)(m:O)(f:ω)(t:ae)(s:ρ):let a:=[AB.row η m 9 (J f) t];let b:=(a8 (bj []));ad θ (FX c e9) (L1 m f t s) 100 PP [.sl 0 9 0 0 m ζ] [.row η m 9 (J f) t] (af 1)
 =bif (m:Z)==(0:Z)then rO [AV.v (.string (a8 (bj [(45:ψ)])))] a else Ω [cw ([AV.sl 0 9 0 0 m ζ,AV.v (.string b),vI 0]=C3 m b 0/\ab a (uX m f t))] (rO [AV.v (.string s)] a):=by intros;kernel_rfl
abbrev BC:Ex->E O:=cx [0,1,5,6,7] [5] [4]
abbrev ml(n:O)(ws:E ρ):E AB:=[.row ε n 1 (ey ws) 9]
abbrev CS(s:ρ)(c:Z)(n:O)(a i:Z):E AV:=[.v (.string s),.v (.int .u8 c),.own 0 n,.v (ι a),.v (ι i)]
def amM(s:ρ)(c:Z)(n:O)(ws:E ρ)(a i:Z):let b:=(↑(aW s):Z);let d:=vI (aj .i64 (i+(1:Z)));let e:=[AB.row ε n 1 (ey ws) 9];let f:=(ao.out .normal [AV.v (.string s),AV.v (.int .u8 c),AV.own 0 (n+1),d,d] [AB.row ε (n+1) 1 (λq=>[cZ (bif Δ q n then et ws q else Hr s (a5 a) (a5 i))]) 9]);let g:=[ο ((0:Z)<=a),ο (a<=i),ο (i<=b),Θ n n,Θ (n+1) 549755813888];a0 θ g0 200 K (a4 0 PR) (aw 0 36 ((BC .normal).zip (CS s c n a i))) (ml n ws) (cJ 36 BC 0)
 =bif ο (i<=b)then bif i==b then Ω g f else Ω [ο ((0:Z)<=i),ο (i<b)] (bif ce s i==c then Ω g f else ao.out .normal [AV.v (.string s),AV.v (.int .u8 c),AV.own 0 n,vI a,d] e)else ao.out (Ex.exit 0) [AV.own 0 n] e:=by intros;kernel_rfl
noncomputable abbrev LI(s:ρ)(c:Z)(m:O)(ws:E ρ):O->χ Sum:=bJ 0 (bD 36 (BC .normal) 0 (CS s c 0 0 0) (ml 0 []) (λa=>a .normal (aw 0 36 [(5,.own 0 m)]) (ml m ws)))
def aqu(s:ρ)(c:Z)(m:O)(ws:E ρ):ad θ g0 (LI s c m ws) 200 PR [.v (.string s),.v (.int .u8 c)] [] (af 0)=Ω [cw ([AV.v (.string s),AV.v (.int .u8 c),AV.own 0 0,vI 0,vI 0]=CS s c 0 (0:Z) (0:Z)/\ab [AB.row ε 0 1 (λ_=>[]) 9] (ml 0 []))] (rO [AV.own 0 m] [AB.row ε m 1 (ey ws) 9]):=by kernel_rfl
abbrev BK:Ex->E O:=cx [0,3,4,5] [3,4] [2]
abbrev CV(s:ρ)(n g:Z)(i:Z):E AV:=[.v (.string s),.v (ι n),.v (ι g),.v (ι i)]
def am2(s:ρ)(n g i:Z):let b:=vI (aj .i64 (i+(1:Z)));let c:=AV.v (.string s);let d:=(↑(aW s):Z);let e:=[c,vI n,vI g,b];let a:=[ο ((0:Z)<=i),ο (i<d)];let f:=(bif ο (ce s i>= (48:Z))then Ω a (bif ο (ce s i<=(57:Z))then Ω a (ao.out .normal [c,vI (aj .i64 (aj .i64 ((10:Z)*n)+aj .i64 (aj .u8 (ce s i-(48:Z))))),vI g,b] [])else ao.out .normal e [])else ao.out .normal e []);a0 θ g0 200 K (a4 0 PS) (aw 0 47 ((BK .normal).zip (CV s n g i))) [] (cJ 47 BK 0)
 =bif ο (i<d)then bif ο (i<(9:Z))then bif i==(0:Z)then Ω a (bif ce s i==(45:Z)then ao.out .normal [c,vI n,vI (-1:Z),b] []else Ω a f)else Ω a f else ao.out (Ex.exit 0) [vI n,vI g] []else ao.out (Ex.exit 0) [vI n,vI g] []:=by intros;kernel_rfl
noncomputable abbrev LU(s:ρ)(n g:Z):O->χ Sum:=bJ 0 (bD 47 (BK .normal) 0 (CV s 0 1 0) [] (λa=>a .normal (aw 0 47 [(3,.v (ι n)),(4,.v (ι g))]) []))
def arn(s:ρ)(n g:Z):ad θ g0 (LU s n g) 200 PS [.v (.string s)] [] (af 0)=Ω [cw ([AV.v (.string s),vI 0,vI 1,vI 0]=CV s (0:Z) (1:Z) (0:Z)/\ab [] [])] (rO [vI (aj .i64 (g*n))] []):=by kernel_rfl
def nv(w:Wh):E ψ:=bc w.s++58::iD [bc w.r.c0,bc w.r.c1,bc w.r.c2,bc w.r.c3,bc w.r.c4,bc w.r.c5,bc w.r.c6,bc w.r.c7] [44]
def cR(w:Wh):ρ:=⟨(nv w).toArray⟩
def lX(L:E Wh):E ψ:=iD (L.map nv) [32]
def dB(L:E Wh):ρ:=bif L.isEmpty then⟨#[45]⟩else⟨(lX L).toArray⟩
def e9(w:Wh):κ:=aD w.s (-1000) 1000&&bz w.r
def ux(x y:E ψ):ba ⟨x.toArray⟩ ⟨y.toArray⟩=⟨(x++y).toArray⟩:=Zt x y
def Ak(x y:ρ):(ba x y).size=x.size+y.size:=by simp[ba]
def tb(x:E ψ):(a8 x.toArray).size=x.length:=by simp[aW]
def alz{w:Wh}(h:e9 w=ε):(-1000<=w.s/\w.s<=1000)/\∀k,k<8-> -1000000<=w.r.f k/\w.r.f k<=1000000:=by simp only[e9,aM]at h;exact⟨b9.1 h.1,vG.1 h.2⟩
def Cj{w:Wh}(h:e9 w=ε):∀x∈ [w.s,w.r.c0,w.r.c1,w.r.c2,w.r.c3,w.r.c4,w.r.c5,w.r.c6,w.r.c7],-1000000<=x/\x<=1000000:=by
 obtain⟨c,a⟩:=alz h;intro x b;simp only[dw,kq,or_false]at b;rcases b with rfl|rfl|rfl|rfl|rfl|rfl|rfl|rfl|rfl
 ·omega
 ·exact a 0 (by omega)
 ·exact a 1 (by omega)
 ·exact a 2 (by omega)
 ·exact a 3 (by omega)
 ·exact a 4 (by omega)
 ·exact a 5 (by omega)
 ·exact a 6 (by omega)
 ·exact a 7 (by omega)
def MD{L:E Wh}(h:aG L=ε):∀w∈L,e9 w=ε:=λw a=>by simp only[aG,aM,bX]at h;rw[e9,aM];exact h.2 w a
def ru{n:Z}(a: -1000000<=n)(b:n<=1000000):(bc n).length<=20:=by
 have:=nX (n:=n) (by omega) (by omega)
 rwa [bM,tb]at this
def aoA(a b c d e f g h:ρ):strs (λq=>[cZ (bif Δ q 7 then bif Δ q 6 then bif Δ q 5 then bif Δ q 4 then bif Δ q 3 then bif Δ q 2 then bif Δ q 1 then bif Δ q 0 then a8 (bj [])else a else b else c else d else e else f else g else h)]) 8=[a,b,c,d,e,f,g,h]:=rfl
def Zh(a c d e f g h i j:Z):ba (ba (bM a) (a8 (bj [58]))) (m_ [bM c,bM d,bM e,bM f,bM g,bM h,bM i,bM j] (a8 (bj [44])))=cR ⟨a,⟨c,d,e,f,g,h,i,j⟩⟩:=by
 show ba (ba ⟨(bc a).toArray⟩ ⟨[58].toArray⟩) ⟨(iD ([⟨(bc c).toArray⟩,⟨(bc d).toArray⟩,⟨(bc e).toArray⟩,⟨(bc f).toArray⟩,⟨(bc g).toArray⟩,⟨(bc h).toArray⟩,⟨(bc i).toArray⟩,⟨(bc j).toArray⟩].map λb:ρ=>b.data.toList) [44]).toArray⟩=_
 rw[ux,ux,cR,nv];simp
def Hm{w:Wh}(h:e9 w=ε):(cR w).size<=200:=by have a:=Cj h;simp only[HF,kq,H_,Ib,aa]at a;obtain⟨⟨b,c⟩,⟨d,e⟩,⟨f,g⟩,⟨i,j⟩,⟨k,l⟩,⟨m,n⟩,⟨o,p⟩,⟨q,r⟩,⟨s,t⟩⟩:=a;have:=ru b c;have:=ru d e;have:=ru f g;have:=ru i j;have:=ru k l;have:=ru m n;have:=ru o p;have:=ru q r;have:=ru s t;rw[cR,tb,nv,tR];simp[lY];omega
def UF(a:E ψ):∀(r:E (E ψ))(b:O),(∀x∈r,x.length<=b)->(lY a r).length<=r.length*(b+a.length)
 |[],b,_=>by simp[lY]
 |x::r,b,h=>by
  have d:=UF a r b λy c=>h y (lB _ c)
  have e:=h x je;have:(lY a (x::r)).length=a.length+x.length+(lY a r).length:=by simp[lY];omega
  rw[this,cn,fN];omega
def N'{L:E Wh}(h:∀w∈L,e9 w=ε):(lX L).length<=L.length*201:=by
 cases L with
 |nil=>simp[lX,Lib.join_nil]
 |cons w L=>
  rw[lX,eD,tR,cv];have b:=UF [32] (L.map nv) 200 λx c=>by
   obtain⟨d,a,rfl⟩:=fX.1 c;have:=Hm (h d (lB _ a))
   rwa [cR,tb]at this
  have e:=Hm (h w je);rw[cR,tb]at e;simp only[cC,cn,gm]at b⊢;omega
def apC(L:E Wh):m_ (L.map cR) (a8 (bj [32]))=⟨(lX L).toArray⟩:=by simp only[m_,lX,List.map_map];rfl
def Yd(ws:E ρ)(x:ρ)(i:O)(a:ws.length=i)(q:O)(b:q<i+1):[cZ (bif Δ q i then et ws q else x)]=ey (ws++[x]) q:=by
 subst a;unfold ey et;by_cases e:q<ws.length
 ·rw[show Δ q ws.length=ε from by rw[bS];exact e,aZ]
  simp[HG,km e]
 ·have:q=ws.length:=by omega
  subst this;rw[show Δ ws.length ws.length=η from by simp[bS,<-Dl],a_];simp[HG]
def XP(ws:E ρ)(m:O)(h:ws.length=m):strs (ey ws) m=ws:=by subst h;apply List.ext_getElem (by simp[strs]);intro i b a;simp[strs,ey,y',et,HG,a]
def abe(ws:E ρ)(m:O):nP m (ey ws)=ε:=bX.2 λ_ _=>rfl
def Tt:aK θ (F5 bM m_):=az (az bt VS) akz
def apf(m:O)(f:ω)(t:ae)(o:m<=12)(d:∀w∈V f m,e9 w=ε):cp θ 1 (.block 0 (.loop (a4 0 Py))) (bD 47 (BY .normal) 1 (C5 m 0 0) (sX m f t 0 []) (λa=>a .normal (aw 0 47 [(3,.own 1 m)]) (sX m f t m ((V f m).map cR)))):=by
 refine dQ Tt (n:=200) (m:=1) (lv:=BY) (λi=>C5 m i i) (λi=>sX m f t i ((V f i).map cR)) (λ_=>True) m (λ_=>K) (du rfl rfl rfl) (aR _) trivial λa Q j i r k=>⟨cT _ _ _,?_⟩
 rw[ano];refine ay (λb=>?_) λb=>?_
 ·have b:=aL b
  have c:i<m:=by omega
  have e:e9 (bm (f i))=ε:=d _ (g8 (nb f c));have g:=Cj e;have s:=Hm e;simp only[bm,HF,kq,H_,Ib,aa]at g;obtain⟨⟨u,v⟩,⟨y,z⟩,⟨b,A⟩,⟨B,C⟩,⟨h,D⟩,⟨G,H⟩,⟨I,L⟩,⟨M,N⟩,⟨P,R⟩⟩:=g;rw[cY,bF,bR (x:=(i:Z)+1) (by omega),aoA];have S:(cR (bm (f i))).size=(bM (f i 0)).size+1+(m_ [bM (f i 1),bM (f i 2),bM (f i 3),bM (f i 4),bM (f i 5),bM (f i 6),bM (f i 7),bM (f i 8)] (a8 (bj [44]))).size:=by rw[bm,<-Zh,Ak,Ak];rfl
  refine ag ?_ (Φ ⟨i+1,⟨rfl,c,trivial⟩,rfl,?_⟩)
  ·simp only[F,ah,aa,aB,aT,Ak]
   have h:(a8 (bj [58])).size=1:=rfl;rw[h];omega
  ·show ab _ (sX m f t (i+1) ((V f (i+1)).map cR))
   rw[gw,iN,Zh];refine(.cons (Ξ.refl _) (.cons (Ξ.row λq l=>?_) .nil));exact Yd _ _ i (by rw[cC,ch]) q l
 ·have b:=cE b
  have:i=m:=by omega
  subst this;refine Φ ⟨_,ab.refl _,?_⟩;rw[aP rfl];exact j
def un(b:E Wh->ρ)(a:E Wh->κ):E SA->χ FR
 |[.row m g]=>γ {val:=.v (.string (b (V (ξ g) m))),ap:=[ak m g,a (V (ξ g) m)]}
 |_=>ζ
def Wd:au θ 140 (am bP (un dB aG)):=by
 refine bY Tt func140 rfl λn p d h=>?_
 unfold un at d;split at d
 ·rename_i m g
  cases d;simp only[F]at h;obtain⟨e,i,_⟩:=h;have c:=MD i;have k:=kd i;rw[ch]at k;have f:=N' c;rw[ch]at f;refine⟨[.row η m 9 (J (ξ g)) 112],L5 m (ξ g) 112 ((V (ξ g) m).map cR),200,.cons (Ξ.row λj a=>aN e j a) .nil,cz (by kernel_rfl) (apf m (ξ g) 112 k c),?_⟩;show aC (ad θ (F5 bM m_) (L5 m (ξ g) 112 ((V (ξ g) m).map cR)) 200 Py [.sl 0 9 0 0 m ζ] [.row η m 9 (J (ξ g)) 112] (af 1)) _
  rw[ar9,XP _ m (by rw[cC,ch]),apC];have l:(V (ξ g) m).length=m:=ch _ _;refine ay (λb=>?_) λb=>ag ?_ ?_
  ·have b:m=0:=by simpa using b
   subst b;refine Φ ⟨_,rfl,?_,.cons (Ξ.row λj a=>(aN e j a).symm) .nil⟩;rfl
  ·simp only[F,ah,aa,aB,aT,abe,bo,tb]
   exact⟨by omega,cg ⟨rfl,(.cons (Ξ.refl _) (.cons (Ξ.row λj a=>aO a (cN _)) .nil))⟩,by omega,by omega⟩
  ·have b:m≠0:=by simpa using b
   refine Φ ⟨_,rfl,?_,.cons (Ξ.row λj a=>(aN e j a).symm) .nil⟩;have:(V (ξ g) m).isEmpty=η:=by
    cases o:V (ξ g) m with
    |nil=>rw[o]at l;exact aO l.symm b
    |cons=>rfl
   rw[dB,this];rfl
 ·cases d
end
end Go.Proofs.YtlmbkhplhkdhlaaGreatDoor
