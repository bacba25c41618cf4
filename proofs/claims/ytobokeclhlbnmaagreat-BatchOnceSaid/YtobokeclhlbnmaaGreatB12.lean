/- Part of the proof of BatchOnce, for every input. -/
import Derived.Test.YtobokeclhlbnmaaGreatB11
set_option linter.all false
namespace Go.Proofs.Run
open Go Go.Abs
attribute [local irreducible] b9 cI cr cg aR
set_option maxRecDepth 100000
set_option maxHeartbeats 4000000
section
section
variable{p:ff}{an ar cx:Nat}{g:G}{n:Nat}{a:aE}{K:cj aE}
theorem aDs{u:c3}{aY:qB}{ks:List Int}{Q:aE->c3->qB->List Int->Prop}(aH:u.cJ=false)(h:pB p a u aY ks Q):pB p a u aY ks (fun a' bj dV k8=>Q a' bj dV k8/\bj.cJ=dV.hL):=by
 unfold pB at h |-
 cases aY<;>simp only at h |-
 .obtain⟨w,J,U⟩:=h;exact⟨w,J,U,aH⟩
 .obtain⟨w,J,U,aq⟩:=h;exact⟨w,J,fun e=>⟨U e,aH⟩,fun e=>⟨aq e,aH⟩⟩
 .obtain⟨w,J,U,aq⟩:=h;exact⟨w,J,fun e=>⟨(U e).1,(U e).2,rfl⟩,fun e=>⟨aq e,aH⟩⟩
 .obtain⟨a5,w,J,U⟩:=h;exact⟨a5,w,J,U,aH⟩
def LT.rZ:LT->Prop
 | .take _ u aY=>u.bH=true->∃aO w,aY= .jo aO w/\u.aO=some aO
 | .leave _ _=>True
def LT.val:LT->Int
 | .take _ _ (.jo _ w)=>w
 |_=>0
theorem aC8{r:LT}{Q:aE->LT->Prop}(h:tA p a r Q):tA p a r (fun a' r'=>Q a' r'/\r'.rZ):=by
 cases r with
 |take v u aY=>
  simp only[tA]at h |-
  unfold ra at h |-
  cases aY<;>simp only at h |-
  .obtain⟨w,J,U,aq⟩:=h;exact⟨w,J,U,aq,by simp[LT.rZ]⟩
  .obtain⟨w,J,U,aq⟩:=h;exact⟨w,J,fun e=>⟨U e,by simp[LT.rZ]⟩,fun e=>⟨aq e,by simp[LT.rZ]⟩⟩
  .obtain⟨w,J,U⟩:=h;exact⟨w,J,fun aO=>⟨U aO,fun _=>⟨aO,w,rfl,rfl⟩⟩⟩
  .obtain⟨w,J,U⟩:=h;exact⟨w,J,U,by simp[LT.rZ]⟩
  .obtain⟨J,U,aq,aK,bx,cp⟩:=h;exact⟨J,U,aq,aK,bx,fun b bC fl c_=>⟨cp b bC fl c_,by simp[LT.rZ]⟩⟩
  .obtain⟨w,J,U⟩:=h;exact⟨w,J,U,by simp[LT.rZ]⟩
 |leave u d=>obtain⟨w,U,aq⟩:=h;exact⟨w,U,aq,trivial⟩
theorem aCA{fl:List Nat}{bz b8:Nat}{v:pk}{u:c3}{aO:Nat}{w:Int}(h:Bw p an ar g fl bz b8 (.take v u (.jo aO w)))(qW:u.aO=some aO)
 (ah:∀g' n' b',n<=b'->g' b'=some (.al false [.int .u64 w])->(∀b,b<n->g' b=g b)->K (.agg [.int .i64 0,.slice b' 0 1 1 1,.int .u64 0,.int .i64 0]) g' n' a):∃fk x f,g b8=some (.al false [.iface fk x])/\nj oi fk "Result" =some (.fn f)/\aR ct bA f [x] g n a K:=by
 obtain⟨k,f,cT,gI,hv,mP,bG,lW,fs,jA,_⟩:=h
 obtain⟨a5,J,U,aq⟩:=bG.a0.j8 aO qW
 obtain⟨nK,qg,pz,ca,_,_,_,_,b,c,tT,_,_,_,b2,_,_,azY⟩:=bG.nx
 exact⟨207,.ptr k 0,392,jA,by kernel_rfl,aC6 bG.ak a5 J U aq azY.1 ah⟩
theorem aCx{key val:Int}{ch:Nat}(cC:ey (lJ p an ar cx) g)(a3:a.an=an/\a.ar=ar)(ap:bm g n)(hv:g ch=some (.al false [.int .u64 val]))
 (ah:∀g' n' fl x l,l=((⟨key,val,2,false,0,0,0,0,0,0,false,false,none⟩,.draw):c3×kV)->Fr g g' n n' [] fl->G_ p an ar g' fl x l->x.cell=true/\x.cells=[x]/\x.known=true/\V.same 40 x x=true->K x g' n' a):eG (.fn (.func 102) [] [.ptr cx 0]) [.agg [.int .i64 2,.int .u64 key,.slice ch 0 1 1 1,.int .i64 0,.int .i64 0]] g n a K:=by
 obtain⟨rfl,rfl⟩:=a3
 have aD:g p.aP=some (fK p a.an a.ar):=cC (p.aP,fK p a.an a.ar) (by simp[lJ])
 have aJ:g cx=some (.al false [.ptr p.aP 0]):=cC (cx,.al false [.ptr p.aP 0]) (by simp[lJ])
 have da:=ap _ _ aD
 have sE:=ap _ _ aJ
 have cF:=ap _ _ hv
 refine⟨_,_,_,rfl,?_⟩
 refine bE i102 fun N aF=>?_
 refine aL Og (cc aJ (ag (I:cx<n)) (ag (I:p.aP<n)) (ag (I:ch<n))) ?_
 refine dO fun cf=>aCv (key:=key) (val:=val) ?_ cf ?_ fun bY bq r gI f1 g4 bG mM c5=>?_
 .exact bc (aN aD (ag (I:p.aP<n)))
 .exact bc (aN hv (ag (I:ch<n)))
 intro dE
 refine dl (aN adj.eq_1 Og) ?_
 apply aF
 refine a6 i102.eq_1 ?_
 intro _
 refine .all (ah _ _ gI _ _ rfl ⟨I,fun b ad=>(mM b ad).2,fun b ad=>.inr (by have:=(mM b ad).1;omega),fun b ad _=>?_⟩ ⟨r,f1,rfl,bG,rfl,rfl,fun hm=>?_⟩ ⟨rfl,rfl,rfl,dW⟩)
 .rw[c5 b I,bJ,if_neg I]
 .have:=(mM _ hm).1;omega
theorem aCz{fl:List Nat}{x:V}{l:c3×kV}{Q:aE->c3×kV->Prop}(cC:ey (lJ p an ar cx) g)(a3:a.an=an/\a.ar=ar)(ap:bm g n)(bf:∀b∈fl,b<n)(h:G_ p an ar g fl x l)(di:l.1.cJ=false)(av:kO p a {l.1 with bH:=false} l.2 (fun a' bj dV=>Q a' (bj,dV)))(bO:∀a' l',Q a' l'->a'.an=an/\a'.ar=ar)
 (ah:∀a' l' g' n' fl',Q a' l'->Fr g g' n n' fl fl'->G_ p an ar g' fl' x l'->K (.bN [.bool l'.1.bH,.bool l'.1.cJ]) g' n' a'):∃fk y f,x= .iface fk y/\nj oi fk "Step" =some (.fn f)/\aR ct bA f [y] g n a K:=by
 have aD:g p.aP=some (fK p an ar):=cC (p.aP,fK p an ar) (by simp[lJ])
 have da:=ap _ _ aD
 obtain⟨r,f,rfl,bG,eJ,fs,aBr⟩:=h
 refine⟨207,.ptr r 0,107,rfl,by kernel_rfl,?_⟩
 have fT:=aDf (u:={l.1 with bH:=false}) (Q:=fun a' bj dV=>Q a' (bj,dV)) eJ fs av
 rw[aIM]at fT
 refine Lz a3 ap bf bG di fT (fun a' bj hi ⟨dV,_,_,_,aK⟩=>bO _ _ aK) fun a' bj hi g' n' fl' cn ⟨dV,jh,U,aq,aK⟩ aV ak=>?_
 subst jh
 refine ah a' (bj,dV) g' n' fl' aK aV ⟨r,cn,rfl,ak,U,aq,fun hm=>?_⟩
 rcases aV.sub _ hm with h|h
 .exact aBr h
 .omega
end
def qh(p:ff)(an ar cx:Nat)(yP:List (Nat×bt)):fw where
 V:=pk
 R:=LT
 L:=c3×kV
 an:=an
 ar:=ar
 e8:=1
 dv:=lJ p an ar cx++yP
 dk:=.fn (.func 105) [] [.ptr cx 0]
 aI:=.fn (.func 102) [] [.ptr cx 0]
 rh:=tD p an ar
 oM g fl bz b8 r:=Bw p an ar g fl bz b8 r/\r.rZ
 uR:=G_ p an ar
 tU _:=⟨wV,.draw,[]⟩
 Ad a v Q:=v.u.cJ=false/\pB p a {v.u with bH:=false} v.aY v.ks (fun a' bj dV k8=>Q a' ⟨bj,dV,k8⟩)
 qt v:=v.u.bH
 r5 v:=v.u.cJ
 iP v:=v.ks
 tok v i:=i<v.ks.length/\v.ks.length<100000
 zH _:=True
 nO v i:=.take v ⟨v.ks.getD i 0,0,5,true,p.R,2,0,0,0,0,false,false,none⟩ .load
 pH _:=.leave wV false
 wJ:=tA p
 oL r:=r.u.bH
 j7 r:=r.u.cJ
 x':=LT.val
 q8 r:=match r with| .take v _ _=>some v| .leave _ _=>none
 zF key val l:=l=((⟨key,val,2,false,0,0,0,0,0,0,false,false,none⟩,.draw):c3×kV)
 pA a l Q:=kO p a {l.1 with bH:=false} l.2 (fun a' bj dV=>Q a' (bj,dV))
 sF l:=l.1.cJ
 G5 l:=l.1.bH
 tS:=by
  intro g g' fl bz v h af lS aw
  exact h.b6 (by rw[af (p.aP,fK p an ar) (by simp[lJ]),lS (p.aP,fK p an ar) (by simp[lJ])]) aw
 u5:=by
  rintro g g' fl bz b8 r ⟨ak,gP⟩ af lS aw
  have aj:g' p.aP=g p.aP:=by rw[af (p.aP,fK p an ar) (by simp[lJ]),lS (p.aP,fK p an ar) (by simp[lJ])]
  refine⟨?_,gP⟩
  cases r with
  |take v u aY=>
   obtain⟨k,f,cT,gI,hv,mP,bG,lW,fs,jA,iI,hF,Dn,rfl⟩:=ak
   exact⟨k,f,cT,gI,hv.b6 aj fun b ad=>aw b (by simp[ad]),mP,bG.b6 aj fun b ad=>aw b (by simp[ad]),lW,fs,by rw[aw b8 aM];exact jA,iI,hF,Dn,rfl⟩
  |leave u d=>
   obtain⟨k,f,gI,bG,jZ,jA,iI,rfl⟩:=ak
   exact⟨k,f,gI,bG.b6 aj fun b ad=>aw b (by simp[ad]),jZ,by rw[aw b8 aM];exact jA,iI,rfl⟩
 G2:=by
  rintro g g' fl x l ⟨r,f,rfl,bG,J,U,aq⟩ af lS aw
  exact⟨r,f,rfl,bG.b6 (by rw[af (p.aP,fK p an ar) (by simp[lJ]),lS (p.aP,fK p an ar) (by simp[lJ])]) aw,J,U,aq⟩
 E4:=by
  rintro g fl bz v ⟨r,hv,ch,cT,bG,aH,J,U,aq,aK,bx,cp,rfl⟩
  simp
 Ev af a3 ap hU ah:=aCB (fun q av=>af q (List.mem_append.2 (.inl av))) a3 ap ah
 NI {_ _ _ _ _ _ _ Q} af a3 ap bf h av bO ah:=aCE (Q:=fun a' v'=>Q a' v'/\v'.u.cJ=v'.aY.hL) (fun q av=>af q (List.mem_append.2 (.inl av))) a3 ap bf h (aDs av.1 av.2) (fun a' v' h=>⟨bO a' v' h.1,h.2⟩) fun a' v' g' n' fl' fT aV ak=>ah a' v' g' n' fl' fT.1 aV ak
 Lu a3 h aH aA ah:=aCw h aA ah a3
 BY af a3 ap bf h aH bg ah:=aCD (fun q av=>af q (List.mem_append.2 (.inl av))) a3 ap bf h aH bg fun g' n' fl' b8 aV ak=>ah g' n' fl' b8 aV ⟨ak,by intro h;cases h⟩
 DT af a3 ap bf h aH _ ah:=aCy (fun q av=>af q (List.mem_append.2 (.inl av))) a3 ap bf h fun g' n' fl' b8 aV ak=>ah g' n' fl' b8 aV ⟨ak,trivial⟩
 HO af a3 ap bf h aH av bO ah:=aCC (Q:=fun a' r'=>_/\r'.rZ) (fun q av=>af q (List.mem_append.2 (.inl av))) a3 ap bf h.1 aH (aC8 av) (fun a' r' h=>bO a' r' h.1) fun a' r' g' n' fl' fT aV ak=>ah a' r' g' n' fl' fT.1 aV ⟨ak,fT.2⟩
 M3:=by
  rintro g n a K fl bz b8 r ⟨ak,gP⟩ he aa ah
  cases r with
  |take v u aY=>
   obtain⟨aO,w,rfl,qW⟩:=gP he
   exact aCA ak qW ah
  |leave u d=>simp at aa
 MZ:=by
  rintro g fl bz b8 r v ⟨ak,gP⟩ aH hv
  cases r with
  |take v' u aY=>
   simp only[Option.some.injEq]at hv;subst hv
   obtain⟨k,f,cT,gI,hv,mP,bG,lW,fs,jA,iI,hF,Dn,rfl⟩:=ak
   refine⟨cT,fun b ad=>by simp[ad],hv,?_⟩
   obtain⟨r,ga,ch,axD,_,di,_⟩:=hv
   rw[di];exact mP
  |leave u d=>simp at hv
 Bt af a3 ap hv ah:=aCx (fun q av=>af q (List.mem_append.2 (.inl av))) a3 ap hv ah
 Bx af a3 ap bf h aH av bO ah:=aCz (fun q av=>af q (List.mem_append.2 (.inl av))) a3 ap bf h aH av bO ah
end
structure hE(κ:fw) where
 X:Nat
 gF:Nat
 Qo:V
 Qi:Int
 awJ:V
 tf:(X,bt.al false [.ptr κ.an 0,Qo,.int .i64 Qi,.slice gF 0 1 1 4])∈κ.dv
 y3:(gF,bt.al false [κ.aI,awJ,κ.dk,.int .i64 κ.e8])∈κ.dv
 tM:0<=κ.e8/\κ.e8<1000
inductive Io(κ:fw) where
 |first
 |enter
 |entering (v:κ.V)
 |within (v:κ.V)
 |sT (r:κ.R)
 |leaving (r:κ.R)
 |fin
structure bS(κ:fw) where
 room:Int
 i:Nat
 keys:List Int
 e3:List Int
 gU:List Int
 no:Int
 over:Bool
 bH:Bool
 cJ:Bool
 hG:Io κ
structure yp{κ:fw}(x:hE κ)(kind:Int)(b:bS κ)(f:a2):Prop where
 x:f.x= .ptr x.X 0
 d0:f.d0= .int .i64 kind
 fg:f.fg= .int .i64 4
 ic:f.ic= .int .i64 1
 cS:f.cS= .int .i64 64
 lu:f.lu= .int .i64 0
 lv:f.lv= .int .u64 0
 lx:f.lx= .br
 ly:f.ly= .int .i64 1
 lz:f.lz= .int .i64 0
 kD:f.kD= .int .i64 b.no
 ln:f.ln= .int .i64 0
 lo:f.lo= .int .u64 0
 lp:f.lp= .int .i64 0
 lq:f.lq= .br
 lr:f.lr= .int .u64 0
 ls:f.ls= .int .i64 0
 jW:f.jW= .int .i64 b.e3.length
 kb:∃e,f.kb= .int .u64 e
 room:f.room= .int .i64 b.room
 i:f.i= .int .i64 b.i
 effect:f.effect= .bool b.bH
 mem:f.mem= .bool false
 done:f.done= .bool b.cJ
 over:f.over= .bool b.over
def yq{κ:fw}(g:G)(cU:List Nat)(aO:Nat)(f:a2):Io κ->Prop
 | .first=>f.next= .fn (.func 34) [.ptr aO 0] []/\cU=[]
 | .enter=>f.next= .fn (.func 53) [.ptr aO 0] []/\cU=[]
 | .entering v=>f.next= .fn (.func 126) [.ptr aO 0] []/\∃bz,f.visit= .ptr bz 0/\κ.rh g cU bz v
 | .within v=>f.next= .fn (.func 187) [.ptr aO 0] []/\∃bz,f.visit= .ptr bz 0/\κ.rh g cU bz v/\κ.r5 v=true
 | .sT r=>f.next= .fn (.func 255) [.ptr aO 0] []/\∃bz b8,f.visit= .ptr bz 0/\f.now= .iface 44 (.ptr b8 0)/\κ.oM g cU bz b8 r/\(κ.q8 r).isSome=true/\κ.j7 r=false
 | .leaving r=>f.next= .fn (.func 253) [.ptr aO 0] []/\∃bz b8,f.now= .iface 44 (.ptr b8 0)/\κ.oM g cU bz b8 r/\κ.j7 r=false
 | .fin=>cU=[]
structure Ip{κ:fw}(x:hE κ)(kind:Int)(g:G)(fl:List Nat)(aO:Nat)(b:bS κ)(f:a2)(fz dw fA cU:List Nat):Prop where
 aI:yp x kind b f
 ak:g aO=some (.al false f.l)
 hZ:iG g f.mA (words b.e3) fz
 dr:iG g f.mB (words b.gU) dw
 nS:iG g f.keys (words b.keys) fA
 sub:yq g cU aO f b.hG
 mj:b.gU.length=b.e3.length
 fl:fl=aO::(fz++(dw++(fA++cU)))
 de:aO∉fz/\aO∉dw/\aO∉fA/\aO∉cU/\(∀y∈fz,y∉dw/\y∉fA/\y∉cU)/\(∀y∈dw,y∉fA/\y∉cU)/\(∀y∈fA,y∉cU)
def nz{κ:fw}(x:hE κ)(kind:Int)(g:G)(fl:List Nat)(aO:Nat)(b:bS κ):Prop:=∃f fz dw fA cU,Ip x kind g fl aO b f fz dw fA cU
def bS.ig{κ:fw}(b:bS κ)(v:κ.V):bS κ:=
 {b with bH:=if κ.qt v then true else b.bH,keys:=if κ.qt v then κ.iP v else b.keys,i:=if κ.qt v then 0 else b.i,
         over:=if κ.qt v=true/\64<b.e3.length+(κ.iP v).length/\0< (κ.iP v).length then true else b.over,
         no:=if κ.qt v=true/\64<b.e3.length+(κ.iP v).length/\0< (κ.iP v).length then(if b.e3.length=0 then 6 else 0)else b.no,hG:=if κ.r5 v then .within v else .entering v}
def bS.b_{κ:fw}(b:bS κ)(r:κ.R):bS κ:=
 {b with bH:=if κ.oL r then true else b.bH,e3:=if κ.oL r then b.e3++[b.keys.getD b.i 0]else b.e3,gU:=if κ.oL r then b.gU++[κ.x' r]else b.gU,
         i:=if κ.j7 r then b.i+1 else b.i,hG:=if κ.j7 r then(match κ.q8 r with|some v=>.within v|none=>.fin)else .sT r}
def bS.cF{κ:fw}(b:bS κ)(r:κ.R):bS κ:=
 {b with cJ:=if κ.j7 r=true/\b.over=true then true else b.cJ,room:=if κ.j7 r=true/\b.over=false then b.room+1 else b.room,
         hG:=if κ.j7 r then(if b.over then .fin else .enter)else .leaving r}
def bS.end_{κ:fw}(b:bS κ):bS κ:={b with over:=true,no:=2,bH:=true,cJ:=true,hG:=.fin}
def uk{κ:fw}(a:aE)(b:bS κ)(v:κ.V)(Q:aE->bS κ->Prop):Prop:=
 κ.Ad a v fun a' v'=>(κ.qt v'=true->κ.r5 v'=true/\(κ.iP v').length<1000)/\(a'.an=κ.an/\a'.ar=κ.ar)/\Q a' (b.ig v')
def xf{κ:fw}(a:aE)(b:bS κ)(r:κ.R)(Q:aE->bS κ->Prop):Prop:=
 b.i<b.keys.length/\b.keys.length<100000/\κ.wJ a r fun a' r'=>((κ.q8 r').isSome=true/\(κ.oL r'=true->κ.j7 r'=false))/\(a'.an=κ.an/\a'.ar=κ.ar)/\Q a' (b.b_ r')
def xe{κ:fw}(a:aE)(b:bS κ)(r:κ.R)(Q:aE->bS κ->Prop):Prop:=
 κ.wJ a r fun a' r'=>(a'.an=κ.an/\a'.ar=κ.ar)/\Q a' (b.cF r')
def Jc{κ:fw}(a:aE)(b:bS κ)(Q:aE->bS κ->Prop):Prop:=
 b.e3.length<100000/\(0<=b.room/\b.room<100000)/\
 match b.hG with
 | .first=>b.room=0/\0<κ.e8/\uk a b (κ.tU 0) Q
 | .enter=>(κ.e8<=b.room->Q a b.end_)/\(b.room<κ.e8->uk a b (κ.tU b.room) Q)
 | .entering v=>uk a b v Q
 | .within v=>((b.over=true\/b.i=b.keys.length)->κ.zH v/\κ.j7 (κ.pH v)=false/\xe a b (κ.pH v) Q)/\(¬(b.over=true\/b.i=b.keys.length)->κ.tok v b.i/\κ.j7 (κ.nO v b.i)=false/\(κ.q8 (κ.nO v b.i)).isSome=true/\xf a b (κ.nO v b.i) Q)
 | .sT r=>xf a b r Q
 | .leaving r=>xe a b r Q
 | .fin=>False
def uc{κ:fw}(x:hE κ)(kind:Int)(g:G)(n:Nat)(fl:List Nat)(aO:Nat)(K:cj aE)(b:bS κ)(a:aE):Prop:=
 ∀g' n' fl',Fr g g' n n' fl fl'->nz x kind g' fl' aO b->K (.bN []) g' n' a
theorem uc.trans{κ:fw}{x:hE κ}{kind:Int}{g bY:G}{n bq:Nat}{fl gI:List Nat}{aO:Nat}{K:cj aE}{b:bS κ}{a:aE}(h:uc x kind g n fl aO K b a)(aV:Fr g bY n bq fl gI):uc x kind bY bq gI aO K b a:=fun g' n' fl' y7 ak=>h g' n' fl' (aV.trans y7) ak
theorem ey.eI{dv:List (Nat×bt)}{g g':G}{n n':Nat}{fl fl':List Nat}(h:ey dv g)(ap:bm g n)(ad:∀q∈dv,q.1∉fl)(aV:Fr g g' n n' fl fl'):ey dv g'/\∀q∈dv,q.1∉fl':=
 ⟨fun q av=>by rw[aV.aw _ (ap _ _ (h q av)) (ad q av)];exact h q av,fun q av hm=>by
  rcases aV.sub _ hm with ay|ay
  .exact ad q av ay
  .have:=ap _ _ (h q av);omega⟩
section
variable{κ:fw}{x:hE κ}{kind:Int}{g:G}{n:Nat}{a:aE}{K:cj aE}{fl:List Nat}{aO:Nat}{b:bS κ}
theorem JF{f:a2}{e:Int}(ak:g aO=some (.al false f.l))(ah:∀g' n',n<=n'->g' aO=some (.al false {f with kD:=.int .i64 e,effect:=.bool true,over:=.bool true}.l)->(∀y,y≠aO->g' y=g y)->K (.bN []) g' n' a):aR ct bA 50 [.ptr aO 0,.int .i64 e] g n a K:=by
 refine bE i50 fun N aF=>?_
 refine aL auY (aN ak @h2) ?_
 apply aF
 refine a6 i50.eq_1 ?_
 refine fun az=>.all (ah _ _ az (bc @h2) fun y ai=>?_)
 have c4:(aO=y)=False:=eq_false fun e=>ai e.symm
 exact bc c4
theorem PI{v:κ.V}{Q:aE->bS κ->Prop}(cC:ey κ.dv g)(a3:a.an=κ.an/\a.ar=κ.ar)(ap:bm g n)(bf:∀y∈fl,y<n)(cy:∀q∈κ.dv,q.1∉fl)(h:nz x kind g fl aO b)(eO:b.hG= .entering v)(nD:b.e3.length<100000)(av:uk a b v Q)
 (ah:∀a' b',Q a' b'->uc x kind g n fl aO K b' a'):aR ct bA 126 [.ptr aO 0] g n a K:=by
 obtain⟨f,fz,dw,fA,cU,⟨aI,ak,hZ,dr,nS,sub,mj,rfl,de⟩⟩:=h
 rw[eO]at sub
 obtain⟨jh,bz,ng,kg⟩:=sub
 have cV:=ap _ _ ak
 obtain⟨bq,aT,cq,ik,dD,kh,nl⟩:=de
 have kq:∀y∈fz,y<n:=fun y ai=>bf y (by simp[ai])
 have g9:∀y∈dw,y<n:=fun y ai=>bf y (by simp[ai])
 have k4:∀y∈fA,y<n:=fun y ai=>bf y (by simp[ai])
 have m7:∀y∈cU,y<n:=fun y ai=>bf y (by simp[ai])
 have td:∀q∈κ.dv,q.1∉cU:=fun q av hm=>cy q av (by simp[hm])
 refine p0 ?_
 refine bE i126 fun N aF=>?_
 refine aL ug (cw ak ng @h2) ?_
 refine p0 (κ.NI cC a3 ap m7 kg av (fun a' v' h=>h.2.1) fun a' v' bY nk er xO cL Lf=>?_)
 intro dE _
 obtain⟨sv,Dh,bO⟩:=xO
 have l0:=ah a' _ bO
 have aD:=cL.az
 have dL:bY aO=some (.al false f.l):=by rw[cL.aw aO cV ik];exact ak
 have u9:=hZ.b6 (g':=bY) fun y ai=>cL.aw y (kq y ai) (dD y ai).2.2
 have u_:=dr.b6 (g':=bY) fun y ai=>cL.aw y (g9 y ai) (kh y ai).2
 have u':=nS.b6 (g':=bY) fun y ai=>cL.aw y (k4 y ai) (nl y ai)
 have zL:∀{mc:List Nat},(∀y∈mc,y∈cU\/n<=y)->aO∉fz/\aO∉dw/\aO∉fA/\aO∉mc/\(∀y∈fz,y∉dw/\y∉fA/\y∉mc)/\(∀y∈dw,y∉fA/\y∉mc)/\(∀y∈fA,y∉mc):=by
  intro mc aa
  have dy:∀y,y<n->y∉cU->y∉mc:=fun y J U hm=>by
   rcases aa y hm with h|h
   .exact U h
   .omega
  exact⟨bq,aT,cq,dy _ cV ik,fun y ai=>⟨(dD y ai).1,(dD y ai).2.1,dy y (kq y ai) (dD y ai).2.2⟩,fun y ai=>⟨(kh y ai).1,dy y (g9 y ai) (kh y ai).2⟩,fun y ai=>dy y (k4 y ai) (nl y ai)⟩
 cases he:κ.qt v' with
 |false=>
  cases aH:κ.r5 v' with
  |false=>
   refine aL (aN HD.eq_1 ug) (aN he aH) ?_
   apply aF
   refine a6 i126.eq_1 ?_
   intro _
   refine .all fun _=>l0 bY nk (aO::(fz++(dw++(fA++er)))) ⟨I,fun y ai=>by
    simp only[List.mem_cons,List.mem_append]at ai
    rcases ai with rfl|ai|ai|ai|ai
    .omega
    .have:=kq y ai;omega
    .have:=g9 y ai;omega
    .have:=k4 y ai;omega
    .have:=cL.lt y ai;omega,fun y ai=>by
    simp only[List.mem_cons,List.mem_append]at ai |-
    rcases ai with rfl|ai|ai|ai|ai
    .exact .inl (.inl rfl)
    .exact .inl (.inr (.inl ai))
    .exact .inl (.inr (.inr (.inl ai)))
    .exact .inl (.inr (.inr (.inr (.inl ai))))
    .rcases cL.sub y ai with h|h
     .exact .inl (.inr (.inr (.inr (.inr h))))
     .exact .inr h,fun y ai ij=>cL.aw y ai fun hm=>ij (by simp[hm])⟩ ⟨f,fz,dw,fA,er,⟨⟨aI.x,aI.d0,aI.fg,aI.ic,aI.cS,aI.lu,aI.lv,aI.lx,aI.ly,aI.lz,by simp only[bS.ig,he,aH,Bool.false_eq_true,false_and,if_false];exact aI.kD,aI.ln,aI.lo,aI.lp,aI.lq,aI.lr,aI.ls,aI.jW,aI.kb,aI.room,by simp only[bS.ig,he,Bool.false_eq_true,if_false];exact aI.i,by simp only[bS.ig,he,Bool.false_eq_true,if_false];exact aI.effect,aI.mem,aI.done,by simp only[bS.ig,he,Bool.false_eq_true,false_and,if_false];exact aI.over⟩,dL,u9,u_,by simp only[bS.ig,he,Bool.false_eq_true,if_false];exact u',by simp only[bS.ig,aH,Bool.false_eq_true,if_false];exact⟨jh,bz,ng,Lf⟩,mj,rfl,zL cL.sub⟩⟩
  |true=>
   refine aL (aN HD.eq_1 ug) (cc he aH dL @h2) ?_
   have du:∀y,y≠aO->(a1 bY aO (.al false {f with next:=.fn (.func 187) [.ptr aO 0] []}.l)) y=bY y:=fun y ai=>by rw[bJ,if_neg (fun e=>ai e.symm)]
   apply aF
   refine a6 i126.eq_1 ?_
   intro _
   refine .all fun dC=>l0 _ nk (aO::(fz++(dw++(fA++er)))) ⟨I,fun y ai=>by
    simp only[List.mem_cons,List.mem_append]at ai
    rcases ai with rfl|ai|ai|ai|ai
    .omega
    .have:=kq y ai;omega
    .have:=g9 y ai;omega
    .have:=k4 y ai;omega
    .have:=cL.lt y ai;omega,fun y ai=>by
    simp only[List.mem_cons,List.mem_append]at ai |-
    rcases ai with rfl|ai|ai|ai|ai
    .exact .inl (.inl rfl)
    .exact .inl (.inr (.inl ai))
    .exact .inl (.inr (.inr (.inl ai)))
    .exact .inl (.inr (.inr (.inr (.inl ai))))
    .rcases cL.sub y ai with h|h
     .exact .inl (.inr (.inr (.inr (.inr h))))
     .exact .inr h,fun y ai ij=>by
    simp only[List.mem_cons,List.mem_append,not_or]at ij
    rw[du y ij.1];exact cL.aw y ai ij.2.2.2.2⟩ ⟨{f with next:=.fn (.func 187) [.ptr aO 0] []},fz,dw,fA,er,⟨⟨aI.x,aI.d0,aI.fg,aI.ic,aI.cS,aI.lu,aI.lv,aI.lx,aI.ly,aI.lz,by simp only[bS.ig,he,aH,Bool.false_eq_true,false_and,if_false];exact aI.kD,aI.ln,aI.lo,aI.lp,aI.lq,aI.lr,aI.ls,aI.jW,aI.kb,aI.room,by simp only[bS.ig,he,Bool.false_eq_true,if_false];exact aI.i,by simp only[bS.ig,he,Bool.false_eq_true,if_false];exact aI.effect,aI.mem,aI.done,by simp only[bS.ig,he,Bool.false_eq_true,false_and,if_false];exact aI.over⟩,by rw[bJ,if_pos rfl],u9.b6 fun y ai=>du y fun e=>bq (e▸ai),u_.b6 fun y ai=>du y fun e=>aT (e▸ai),by simp only[bS.ig,he,Bool.false_eq_true,if_false];exact u'.b6 fun y ai=>du y fun e=>cq (e▸ai),?_,mj,rfl,zL cL.sub⟩⟩
   simp only[bS.ig,aH,if_true]
   have k5:aO∉er:=(zL cL.sub).2.2.2.1
   have jL:=cC.eI ap td cL
   exact⟨rfl,bz,ng,κ.tS Lf jL.1 (fun q av=>by rw[du _ fun e=>cy q av (by simp[e])];exact jL.1 q av) fun y ai=>du y fun e=>k5 (e▸ai),aH⟩
 |true=>
  obtain⟨aH,e0⟩:=sv he
  have k5:aO∉er:=(zL cL.sub).2.2.2.1
  have jL:=cC.eI ap td cL
  have vU:∀y,y≠aO->(a1 bY aO (.al false {f with effect:=.bool true}.l)) y=bY y:=fun y ai=>by rw[bJ,if_neg (fun e=>ai e.symm)]
  have qO:∀q∈κ.dv,q.1≠aO:=fun q av e=>cy q av (by simp[e])
  refine aL (aN HD.eq_1 ug) (eW he aH dL ng @h2) ?_
  have Sp:=κ.tS Lf jL.1 (g':=a1 bY aO (.al false {f with effect:=.bool true}.l)) (fun q av=>by rw[vU _ (qO q av)];exact jL.1 q av) fun y ai=>vU y fun e=>k5 (e▸ai)
  have ku:bm (a1 bY aO (.al false {f with effect:=.bool true}.l)) nk:=dE.a1 I _
  have p4:ey κ.dv (a1 bY aO (.al false {f with effect:=.bool true}.l)):=fun q av=>by rw[vU _ (qO q av)];exact jL.1 q av
  have mh:({f with effect:=.bool true,visit:=.ptr bz 0}:a2)={f with effect:=.bool true}:=by rw[<-ng]
  have zr:(a1 bY aO (.al false ({f with effect:=.bool true,visit:=.ptr bz 0}:a2).l))=(a1 bY aO (.al false {f with effect:=.bool true}.l)):=by rw[mh]
  refine κ.Lu Dh (by rw[zr];exact Sp) aH I fun ba c9 kv kf cB rM p9 cQ=>?_
  intro dC
  rw[zr]at cQ
  have aC5:aO<nk:=I
  have fQ:ba aO=some (.al false {f with effect:=.bool true}.l):=by rw[cQ aO aC5,bJ,if_pos rfl]
  have KA:∀y,y<nk->y≠aO->ba y=bY y:=fun y J U=>by rw[cQ y J,vU y U]
  have Nk:=u9.b6 (g':=ba) fun y ai=>KA y (by have:=kq y ai;omega) fun e=>bq (e▸ai)
  have H8:=u_.b6 (g':=ba) fun y ai=>KA y (by have:=g9 y ai;omega) fun e=>aT (e▸ai)
  have az5:=rM.lt dC
  obtain⟨v1,v2,fm,v4,B2,v6⟩:=rM.g6
  rw[iS]at v6
  have dA:IntKind.wrap .i64 ((b.e3.length:Int)+((κ.iP v').length:Int))=(b.e3.length:Int)+((κ.iP v').length:Int):=wrap_i64 I I
  have fh:=aI.jW
  have pu:=aI.cS
  have ha:=aI.room
  have qI:∀(F:a2) (gv:G) (cq:Nat),c9<=cq->yp x kind (b.ig v') F->F.visit= .ptr bz 0->F.next= .fn (.func 187) [.ptr aO 0] []->F.mA=f.mA->F.mB=f.mB->F.keys=kv->gv aO=some (.al false F.l)->(∀y,y≠aO->gv y=ba y)->K (.bN []) gv cq a':=by
   intro F gv cq iJ lR Bj nh kr eJ pw mN du
   refine l0 gv cq (aO::(fz++(dw++(kf++er)))) ⟨I,fun y ai=>?_,fun y ai=>?_,fun y ai ij=>?_⟩ ⟨F,fz,dw,kf,er,lR,mN,?_,?_,?_,?_,mj,rfl,bq,aT,fun hm=>?_,(zL cL.sub).2.2.2.1,fun y ai=>⟨(dD y ai).1,fun hm=>?_,((zL cL.sub).2.2.2.2.1 y ai).2.2⟩,fun y ai=>⟨fun hm=>?_,((zL cL.sub).2.2.2.2.2.1 y ai).2⟩,fun y ai hm=>?_⟩
   .simp only[List.mem_cons,List.mem_append]at ai
    rcases ai with rfl|ai|ai|ai|ai
    .omega
    .have:=kq y ai;omega
    .have:=g9 y ai;omega
    .have:=az5 y ai;omega
    .have:=cL.lt y ai;omega
   .simp only[List.mem_cons,List.mem_append]at ai |-
    rcases ai with rfl|ai|ai|ai|ai
    .exact .inl (.inl rfl)
    .exact .inl (.inr (.inl ai))
    .exact .inl (.inr (.inr (.inl ai)))
    .exact .inr (by have:=p9 y ai;omega)
    .rcases cL.sub y ai with h|h
     .exact .inl (.inr (.inr (.inr (.inr h))))
     .exact .inr h
   .simp only[List.mem_cons,List.mem_append,not_or]at ij
    rw[du y ij.1,KA y I ij.1];exact cL.aw y ai ij.2.2.2.2
   .rw[kr];exact Nk.b6 fun y ai=>du y fun e=>bq (e▸ai)
   .rw[eJ];exact H8.b6 fun y ai=>du y fun e=>aT (e▸ai)
   .rw[pw];simp only[bS.ig,he,if_true];exact rM.b6 fun y ai=>du y fun e=>(by have:=p9 y ai;omega)
   .simp only[bS.ig,aH,if_true]
    exact⟨nh,bz,Bj,κ.tS Sp p4 (fun q av=>by rw[du _ (qO q av),cQ _ (ku _ _ (p4 q av))];exact p4 q av) fun y ai=>by rw[du y (fun e=>k5 (e▸ai)),cQ y (cL.lt y ai)],aH⟩
   .have:=p9 _ hm;omega
   .have:=p9 _ hm;have:=kq y ai;omega
   .have:=p9 _ hm;have:=g9 y ai;omega
   .have:=p9 y ai;have:=cL.lt y hm;omega
  by_cases hr:64<b.e3.length+(κ.iP v').length
  .have d1:(64:Int)< (b.e3.length:Int)+((κ.iP v').length:Int):=I
   by_cases g2:0< (κ.iP v').length
   .have d2:(0:Int)< ((κ.iP v').length:Int):=I
    have wh:κ.qt v'=true/\64<b.e3.length+(κ.iP v').length/\0< (κ.iP v').length:=⟨he,hr,g2⟩
    by_cases nE:b.e3.length=0
    .have d3:(b.e3.length:Int)=0:=I
     have aIW:IntKind.wrap .i64 ((0:Int)+((κ.iP v').length:Int))=(0:Int)+((κ.iP v').length:Int):=wrap_i64 I I
     have awY:(64:Int)< (0:Int)+((κ.iP v').length:Int):=I
     refine aL (aN Eo.eq_1 ug) (bs fQ he aH v1 v2 fm v4 v6 aIW fh pu (eW ha awY d2 d3 @h2)) ?_
     refine JF (f:={f with cS:=.int .i64 64,jW:=.int .i64 0,room:=.int .i64 b.room,keys:=kv,i:=.int .i64 0,effect:=.bool true,kb:=.int .u64 (IntKind.wrap .u64 b.room)}) ?_ fun fH cq iJ mN m8=>?_
     .exact dX
     intro gB
     refine aL ug (cc he aH mN @h2) ?_
     apply aF
     refine a6 i126.eq_1 ?_
     intro _
     refine .all fun jN=>qI {f with cS:=.int .i64 64,jW:=.int .i64 0,room:=.int .i64 b.room,keys:=kv,i:=.int .i64 0,effect:=.bool true,kb:=.int .u64 (IntKind.wrap .u64 b.room),kD:=.int .i64 6,over:=.bool true,next:=.fn (.func 187) [.ptr aO 0] []} _ cq I ⟨aI.x,aI.d0,aI.fg,aI.ic,rfl,aI.lu,aI.lv,aI.lx,aI.ly,aI.lz,by simp only[bS.ig,if_pos wh,if_pos nE],aI.ln,aI.lo,aI.lp,aI.lq,aI.lr,aI.ls,by rw[show(bS.ig b v').e3.length=0 from nE];rfl,⟨_,rfl⟩,rfl,by simp only[bS.ig,he,if_true];rfl,by simp only[bS.ig,he,if_true],aI.mem,aI.done,by simp only[bS.ig,if_pos wh]⟩ ng rfl rfl rfl rfl (dX) fun y ai=>?_
     have c4:(aO=y)=False:=eq_false fun e=>ai e.symm
     exact bc (aN c4 (m8 y ai))
    .have d3:((b.e3.length:Int)==0)=false:=by rw[beq_eq_false_iff_ne];omega
     refine aL (aN Eo.eq_1 ug) (bs fQ he aH v1 v2 fm v4 v6 dA fh pu (eW ha d1 d2 d3 @h2)) ?_
     refine JF (f:={f with cS:=.int .i64 64,jW:=.int .i64 b.e3.length,room:=.int .i64 b.room,keys:=kv,i:=.int .i64 0,effect:=.bool true,kb:=.int .u64 (IntKind.wrap .u64 b.room)}) ?_ fun fH cq iJ mN m8=>?_
     .exact dX
     intro gB
     refine aL ug (cc he aH mN @h2) ?_
     apply aF
     refine a6 i126.eq_1 ?_
     intro _
     refine .all fun jN=>qI {f with cS:=.int .i64 64,jW:=.int .i64 b.e3.length,room:=.int .i64 b.room,keys:=kv,i:=.int .i64 0,effect:=.bool true,kb:=.int .u64 (IntKind.wrap .u64 b.room),kD:=.int .i64 0,over:=.bool true,next:=.fn (.func 187) [.ptr aO 0] []} _ cq I ⟨aI.x,aI.d0,aI.fg,aI.ic,rfl,aI.lu,aI.lv,aI.lx,aI.ly,aI.lz,by simp only[bS.ig,if_pos wh,if_neg nE],aI.ln,aI.lo,aI.lp,aI.lq,aI.lr,aI.ls,by rfl,⟨_,rfl⟩,rfl,by simp only[bS.ig,he,if_true];rfl,by simp only[bS.ig,he,if_true],aI.mem,aI.done,by simp only[bS.ig,if_pos wh]⟩ ng rfl rfl rfl rfl (dX) fun y ai=>?_
     have c4:(aO=y)=False:=eq_false fun e=>ai e.symm
     exact bc (aN c4 (m8 y ai))
   .have d2:¬(0:Int)< ((κ.iP v').length:Int):=I
    have dy:¬(κ.qt v'=true/\64<b.e3.length+(κ.iP v').length/\0< (κ.iP v').length):=fun h=>g2 h.2.2
    refine aL (aN Eo.eq_1 ug) (bs fQ he aH v1 v2 fm v4 v6 dA fh pu (cc ha d1 d2 @h2)) ?_
    apply aF
    refine a6 i126.eq_1 ?_
    intro _
    refine .all fun gB=>qI {f with cS:=.int .i64 64,jW:=.int .i64 b.e3.length,room:=.int .i64 b.room,keys:=kv,i:=.int .i64 0,effect:=.bool true,next:=.fn (.func 187) [.ptr aO 0] []} _ (c9+25) I ⟨aI.x,aI.d0,aI.fg,aI.ic,rfl,aI.lu,aI.lv,aI.lx,aI.ly,aI.lz,by simp only[bS.ig,if_neg dy];exact aI.kD,aI.ln,aI.lo,aI.lp,aI.lq,aI.lr,aI.ls,rfl,aI.kb,rfl,by simp only[bS.ig,he,if_true];rfl,by simp only[bS.ig,he,if_true],aI.mem,aI.done,by simp only[bS.ig,if_neg dy];exact aI.over⟩ ng rfl rfl rfl rfl (dX) fun y ai=>?_
    have c4:(aO=y)=False:=eq_false fun e=>ai e.symm
    exact bc c4
  .have d1:¬(64:Int)< (b.e3.length:Int)+((κ.iP v').length:Int):=I
   have dy:¬(κ.qt v'=true/\64<b.e3.length+(κ.iP v').length/\0< (κ.iP v').length):=fun h=>hr h.2.1
   refine aL (aN Eo.eq_1 ug) (bs fQ he aH v1 v2 fm v4 v6 dA fh pu (cw ha d1 @h2)) ?_
   apply aF
   refine a6 i126.eq_1 ?_
   intro _
   refine .all fun gB=>qI {f with cS:=.int .i64 64,jW:=.int .i64 b.e3.length,room:=.int .i64 b.room,keys:=kv,i:=.int .i64 0,effect:=.bool true,next:=.fn (.func 187) [.ptr aO 0] []} _ (c9+25) I ⟨aI.x,aI.d0,aI.fg,aI.ic,rfl,aI.lu,aI.lv,aI.lx,aI.ly,aI.lz,by simp only[bS.ig,if_neg dy];exact aI.kD,aI.ln,aI.lo,aI.lp,aI.lq,aI.lr,aI.ls,rfl,aI.kb,rfl,by simp only[bS.ig,he,if_true];rfl,by simp only[bS.ig,he,if_true],aI.mem,aI.done,by simp only[bS.ig,if_neg dy];exact aI.over⟩ ng rfl rfl rfl rfl (dX) fun y ai=>?_
   have c4:(aO=y)=False:=eq_false fun e=>ai e.symm
   exact bc c4
end
section
variable{κ:fw}{x:hE κ}{kind:Int}{g:G}{n:Nat}{a:aE}{K:cj aE}{fl:List Nat}{aO:Nat}{b:bS κ}
theorem aeO(cC:ey κ.dv g)(ah:∀n',n<=n'->K (.int .i64 κ.e8) g n' a):aR ct bA 52 [.ptr x.X 0,.int .i64 1] g n a K:=by
 have aD:=cC _ x.tf
 have aJ:=cC _ x.y3
 simp only at aD aJ
 refine bE i52 fun N aF=>?_
 have w0:IntKind.wrap .i64 ((1:Int)-1)=0:=rfl
 refine aL auZ (cc aD aJ w0 @Int.lt_irrefl) ?_
 apply aF
 refine a6 i52.eq_1 ?_
 exact fun az=>.all (ah _ az)
theorem Ev(cC:ey κ.dv g){k:Int}(af:eG κ.dk [.int .i64 k] g n a K):aR ct bA 125 [.ptr x.X 0,.int .i64 1,.int .i64 k] g n a K:=by
 have aD:=cC _ x.tf
 have aJ:=cC _ x.y3
 simp only at aD aJ
 obtain⟨id,first,cap,aAU,gW⟩:=af
 rw[aAU]at aJ
 refine bE i125 fun N aF=>?_
 have w0:IntKind.wrap .i64 ((1:Int)-1)=0:=rfl
 refine aL Oo (cc aD aJ w0 @Int.lt_irrefl) ?_
 refine aR.mono gW fun v g' n' a' az ah=>?_
 intro aA
 refine dl (aN adp.eq_1 Oo) ?_
 apply aF
 refine a6 i125.eq_1 ?_
 exact fun _=>.all ah
theorem PH{Q:aE->bS κ->Prop}(cC:ey κ.dv g)(a3:a.an=κ.an/\a.ar=κ.ar)(ap:bm g n)(bf:∀y∈fl,y<n)(cy:∀q∈κ.dv,q.1∉fl)(h:nz x kind g fl aO b)(eO:b.hG= .enter\/b.hG= .first)(nD:b.e3.length<100000)(ha:0<=b.room/\b.room<100000)
 (xO:κ.e8<=b.room->Q a b.end_) (sv:b.room<κ.e8->uk a b (κ.tU b.room) Q)
 (ah:∀a' b',Q a' b'->uc x kind g n fl aO K b' a'):aR ct bA 53 [.ptr aO 0] g n a K:=by
 obtain⟨f,fz,dw,fA,cU,⟨aI,ak,hZ,dr,nS,sub,mj,rfl,de⟩⟩:=h
 have m7:cU=[]:=by rcases eO with h|h<;>(rw[h]at sub;exact sub.2)
 subst m7
 have cV:=ap _ _ ak
 obtain⟨bq,aT,cq,ik,dD,kh,nl⟩:=de
 have kq:∀y∈fz,y<n:=fun y ai=>bf y (by simp[ai])
 have g9:∀y∈dw,y<n:=fun y ai=>bf y (by simp[ai])
 have k4:∀y∈fA,y<n:=fun y ai=>bf y (by simp[ai])
 have qO:∀q∈κ.dv,q.1≠aO:=fun q av e=>cy q av (by simp[e])
 refine p0 ?_
 refine bE i53 fun N aF=>?_
 refine aL Cp (cc ak aI.x aI.ic @h2) ?_
 refine aeO (x:=x) cC fun nk g4=>?_
 intro dE
 by_cases af:κ.e8<=b.room
 .refine aL (aN MS.eq_1 Cp) (d' ak aI.x aI.ic aI.room af @h2) ?_
  refine dO fun cf=>JF (f:={f with x:=.ptr x.X 0,ic:=.int .i64 1,room:=.int .i64 b.room,kb:=.int .u64 (IntKind.wrap .u64 b.room)}) ?_ fun fH aLt iJ mN m8=>?_
  .exact dX
  intro gB
  refine aL Cp (aN mN @h2) ?_
  apply aF
  refine a6 i53.eq_1 ?_
  intro _
  have du:∀y,y≠aO->(a1 fH aO (.al false ({f with x:=.ptr x.X 0,ic:=.int .i64 1,room:=.int .i64 b.room,kb:=.int .u64 (IntKind.wrap .u64 b.room),kD:=.int .i64 2,effect:=.bool true,over:=.bool true,done:=.bool true}:a2).l)) y=g y:=fun y ai=>by
   have c4:(aO=y)=False:=eq_false fun e=>ai e.symm
   exact bc (aN c4 (m8 y ai))
  refine .all fun jN=>ah a _ (xO af) _ _ (aO::(fz++(dw++(fA++[])))) ⟨I,fun y ai=>by have:=bf y ai;omega,fun y ai=>.inl ai,fun y ai ij=>du y fun e=>ij (by simp[e])⟩ ⟨{f with x:=.ptr x.X 0,ic:=.int .i64 1,room:=.int .i64 b.room,kb:=.int .u64 (IntKind.wrap .u64 b.room),kD:=.int .i64 2,effect:=.bool true,over:=.bool true,done:=.bool true},fz,dw,fA,[],⟨⟨rfl,aI.d0,aI.fg,rfl,aI.cS,aI.lu,aI.lv,aI.lx,aI.ly,aI.lz,rfl,aI.ln,aI.lo,aI.lp,aI.lq,aI.lr,aI.ls,aI.jW,⟨_,rfl⟩,rfl,aI.i,rfl,aI.mem,rfl,rfl⟩,by rw[bJ,if_pos rfl],hZ.b6 fun y ai=>du y fun e=>bq (e▸ai),dr.b6 fun y ai=>du y fun e=>aT (e▸ai),nS.b6 fun y ai=>du y fun e=>cq (e▸ai),rfl,mj,rfl,bq,aT,cq,ik,dD,kh,nl⟩⟩
 .have jz:b.room<κ.e8:=I
  refine aL (aN MS.eq_1 Cp) (d' ak aI.x aI.ic aI.room af @h2) ?_
  refine p0 (Ev (x:=x) cC (κ.Ev cC a3 (ap.mono I) ⟨ha.1,jz⟩ fun bY c9 er bz cL kg=>?_))
  intro dC _
  have aD:=cL.az
  have dL:bY aO=some (.al false f.l):=by rw[cL.aw aO I aM];exact ak
  have hQ:bz∈er:=κ.E4 kg
  refine aL (aN aep.eq_1 Cp) (eW dL aI.x aI.ic aI.room @h2) ?_
  have du:∀y,y≠aO->(a1 (a1 bY aO (bt.al false ({f with x:=.ptr x.X 0,ic:=.int .i64 1,room:=.int .i64 b.room,visit:=.ptr bz 0}:a2).l)) aO (bt.al false ({f with x:=.ptr x.X 0,ic:=.int .i64 1,room:=.int .i64 b.room,visit:=.ptr bz 0,next:=.fn (.func 126) [.ptr aO 0] []}:a2).l)) y=bY y:=fun y ai=>by
   have c4:(aO=y)=False:=eq_false fun e=>ai e.symm
   exact bc c4
  have qU:∀y,y<n->y∉er:=fun y ai hm=>by
   rcases cL.sub y hm with h|h
   .simp at h
   .omega
  have c5:∀y,y<n->bY y=g y:=fun y ai=>cL.aw y I aM
  have hg:Fr g (a1 (a1 bY aO (bt.al false ({f with x:=.ptr x.X 0,ic:=.int .i64 1,room:=.int .i64 b.room,visit:=.ptr bz 0}:a2).l)) aO (bt.al false ({f with x:=.ptr x.X 0,ic:=.int .i64 1,room:=.int .i64 b.room,visit:=.ptr bz 0,next:=.fn (.func 126) [.ptr aO 0] []}:a2).l)) n c9 (aO::(fz++(dw++(fA++[])))) (aO::(fz++(dw++(fA++er)))):=⟨I,fun y ai=>by
   simp only[List.mem_cons,List.mem_append]at ai
   rcases ai with rfl|ai|ai|ai|ai
   .omega
   .have:=kq y ai;omega
   .have:=g9 y ai;omega
   .have:=k4 y ai;omega
   .exact cL.lt y ai,fun y ai=>by
   simp only[List.mem_cons,List.mem_append]at ai |-
   rcases ai with rfl|ai|ai|ai|ai
   .exact .inl (.inl rfl)
   .exact .inl (.inr (.inl ai))
   .exact .inl (.inr (.inr (.inl ai)))
   .exact .inl (.inr (.inr (.inr (.inl ai))))
   .rcases cL.sub y ai with h|h
    .simp at h
    .exact .inr I,fun y ai ij=>by
   rw[du y fun e=>ij (by simp[e]),c5 y ai]⟩
  have jL:ey κ.dv (a1 (a1 bY aO (bt.al false ({f with x:=.ptr x.X 0,ic:=.int .i64 1,room:=.int .i64 b.room,visit:=.ptr bz 0}:a2).l)) aO (bt.al false ({f with x:=.ptr x.X 0,ic:=.int .i64 1,room:=.int .i64 b.room,visit:=.ptr bz 0,next:=.fn (.func 126) [.ptr aO 0] []}:a2).l)):=fun q av=>by
   rw[du _ (qO q av),c5 _ (ap _ _ (cC q av))];exact cC q av
  refine dO fun cf=>aR.mono (PI (K:=fun _ g n a=>K (.bN []) g n a) (x:=x) (kind:=kind) (b:={b with hG:=.entering (κ.tU b.room)}) (Q:=Q) (fl:=aO::(fz++(dw++(fA++er)))) jL a3 cf hg.lt (fun q av hm=>?_) ⟨{f with x:=.ptr x.X 0,ic:=.int .i64 1,room:=.int .i64 b.room,visit:=.ptr bz 0,next:=.fn (.func 126) [.ptr aO 0] []},fz,dw,fA,er,⟨⟨rfl,aI.d0,aI.fg,rfl,aI.cS,aI.lu,aI.lv,aI.lx,aI.ly,aI.lz,aI.kD,aI.ln,aI.lo,aI.lp,aI.lq,aI.lr,aI.ls,aI.jW,aI.kb,rfl,aI.i,aI.effect,aI.mem,aI.done,aI.over⟩,dX,(hZ.b6 fun y ai=>c5 y (kq y ai)).b6 fun y ai=>du y fun e=>bq (e▸ai),(dr.b6 fun y ai=>c5 y (g9 y ai)).b6 fun y ai=>du y fun e=>aT (e▸ai),(nS.b6 fun y ai=>c5 y (k4 y ai)).b6 fun y ai=>du y fun e=>cq (e▸ai),⟨rfl,bz,rfl,κ.tS kg (fun q av=>by rw[c5 _ (ap _ _ (cC q av))];exact cC q av) jL fun y ai=>du y fun e=>qU aO cV (e▸ai)⟩,mj,rfl,bq,aT,cq,qU aO cV,fun y ai=>⟨(dD y ai).1,(dD y ai).2.1,qU y (kq y ai)⟩,fun y ai=>⟨(kh y ai).1,qU y (g9 y ai)⟩,fun y ai=>qU y (k4 y ai)⟩⟩ rfl nD (sv jz) (fun a' b' av=>(ah a' b' av).trans hg)) fun v qK D8 gx v0 kt=>?_
  .simp only[List.mem_cons,List.mem_append]at hm
   rcases hm with h|h|h|h|h
   .exact qO q av h
   .exact cy q av (by simp[h])
   .exact cy q av (by simp[h])
   .exact cy q av (by simp[h])
   .exact qU _ (ap _ _ (cC q av)) h
  intro jN
  apply aF
  refine a6 i53.eq_1 ?_
  exact fun _=>.all fun _=>kt
end
