/- Part of the proof of BatchOnce, for every input. -/
import Derived.Test.YtobokeclhlbnmaaGreatB13
set_option linter.all false
namespace Go.Proofs.Run
open Go Go.Abs
attribute [local irreducible] b9 cI cr cg aR
set_option maxRecDepth 100000
set_option maxHeartbeats 4000000
section
variable{κ:fw}{x:hE κ}{kind:Int}{g:G}{n:Nat}{a:aE}{K:cj aE}{fl:List Nat}{aO:Nat}{b:bS κ}
theorem avs{f:a2}{fz dw fA cU:List Nat}{Q:aE->bS κ->Prop}(dQ:kind=4\/kind=5)(cC:ey κ.dv g)(a3:a.an=κ.an/\a.ar=κ.ar)(ap:bm g n)(bf:∀y∈fl,y<n)(cy:∀q∈κ.dv,q.1∉fl)(h:Ip x kind g fl aO b f fz dw fA cU)(av:Jc a b Q)
 (ah:∀a' b',Q a' b'->uc x kind g n fl aO K b' a'):∃F,f.next= .fn (.func F) [.ptr aO 0] []/\aR ct bA F [.ptr aO 0] g n a K:=by
 obtain⟨nD,ha,av⟩:=av
 have ad:nz x kind g fl aO b:=⟨f,fz,dw,fA,cU,h⟩
 have sub:=h.sub
 cases eO:b.hG with
 |first=>rw[eO]at sub av;exact⟨34,sub.1,avr dQ cC a3 ap bf cy ad eO nD ⟨av.1,av.2.1⟩ av.2.2 ah⟩
 |enter=>rw[eO]at sub av;exact⟨53,sub.1,PH cC a3 ap bf cy ad (.inl eO) nD ha av.1 av.2 ah⟩
 |entering v=>rw[eO]at sub av;exact⟨126,sub.1,PI cC a3 ap bf cy ad eO nD av ah⟩
 |within v=>rw[eO]at sub av;exact⟨187,sub.1,avt cC a3 ap bf cy ad eO nD ha av.1 av.2 ah⟩
 |sT r=>rw[eO]at sub av;exact⟨255,sub.1,PL cC a3 ap bf cy ad eO nD av ah⟩
 |leaving r=>rw[eO]at sub av;exact⟨253,sub.1,PJ cC a3 ap bf cy ad eO ha av ah⟩
 |fin=>rw[eO]at av;exact av.elim
theorem PK{Q:aE->bS κ->Prop}(dQ:kind=4\/kind=5)(cC:ey κ.dv g)(a3:a.an=κ.an/\a.ar=κ.ar)(ap:bm g n)(bf:∀y∈fl,y<n)(cy:∀q∈κ.dv,q.1∉fl)(h:nz x kind g fl aO b)(aH:b.cJ=false)(av:Jc a {b with bH:=false} Q)
 (ah:∀a' b' g' n' fl',Q a' b'->Fr g g' n n' fl fl'->nz x kind g' fl' aO b'->K (.bN [.bool b'.bH,.bool b'.cJ]) g' n' a'):aR ct bA 14 [.ptr aO 0] g n a K:=by
 obtain⟨f,fz,dw,fA,cU,bG⟩:=h
 obtain⟨aI,ak,hZ,dr,nS,sub,mj,rfl,de⟩:=bG
 have cV:=ap _ _ ak
 have di:f.done= .bool false:=by rw[aI.done,aH]
 refine p0 ?_
 refine bE i14 fun N aF=>?_
 refine aL IC (cw ak di @h2) ?_
 obtain⟨bq,aT,cq,ik,dD⟩:=de
 have du:∀y,y≠aO->(a1 (a1 g aO (bt.al false ({f with effect:=.bool false,done:=.bool false}:a2).l)) aO (bt.al false ({f with effect:=.bool false,mem:=.bool false,done:=.bool false}:a2).l)) y=g y:=fun y ai=>by
  have c4:(aO=y)=False:=eq_false fun e=>ai e.symm
  exact bc c4
 have qW:(a1 (a1 g aO (bt.al false ({f with effect:=.bool false,done:=.bool false}:a2).l)) aO (bt.al false ({f with effect:=.bool false,mem:=.bool false,done:=.bool false}:a2).l)) aO=some (bt.al false ({f with effect:=.bool false,mem:=.bool false,done:=.bool false}:a2).l):=dX
 generalize(a1 (a1 g aO (bt.al false ({f with effect:=.bool false,done:=.bool false}:a2).l)) aO (bt.al false ({f with effect:=.bool false,mem:=.bool false,done:=.bool false}:a2).l))=pL at du qW |-
 have jL:ey κ.dv pL:=fun q av=>by rw[du _ fun e=>cy q av (by simp[e])];exact cC q av
 have hg:Fr g pL n n (aO::(fz++(dw++(fA++cU)))) (aO::(fz++(dw++(fA++cU)))):=⟨Nat.le_refl _,bf,fun y ai=>.inl ai,fun y ai ij=>du y fun e=>ij (by simp[e])⟩
 have qc:yq pL cU aO ({f with effect:=.bool false,mem:=.bool false,done:=.bool false}:a2) b.hG:=by
  have aa:∀y∈cU,pL y=g y:=fun y ai=>du y fun e=>ik (e▸ai)
  revert sub
  cases b.hG with
  |first=>exact id
  |enter=>exact id
  |entering v=>exact fun⟨J,bz,U,aq⟩=>⟨J,bz,U,κ.tS aq cC jL aa⟩
  |within v=>exact fun⟨J,bz,U,aq,aK⟩=>⟨J,bz,U,κ.tS aq cC jL aa,aK⟩
  |sT r=>exact fun⟨J,bz,b8,U,aq,aK,bx⟩=>⟨J,bz,b8,U,aq,κ.u5 aK cC jL aa,bx⟩
  |leaving r=>exact fun⟨J,bz,b8,U,aq,aK⟩=>⟨J,bz,b8,U,κ.u5 aq cC jL aa,aK⟩
  |fin=>exact id
 have lR:yp x kind ({b with bH:=false}:bS κ) ({f with effect:=.bool false,mem:=.bool false,done:=.bool false}:a2):=⟨aI.x,aI.d0,aI.fg,aI.ic,aI.cS,aI.lu,aI.lv,aI.lx,aI.ly,aI.lz,aI.kD,aI.ln,aI.lo,aI.lp,aI.lq,aI.lr,aI.ls,aI.jW,aI.kb,aI.room,aI.i,rfl,rfl,by show V.bool false=V.bool b.cJ;rw[aH],aI.over⟩
 have dE:bm pL n:=fun y o au=>by
  by_cases e:y=aO
  .rw[e];exact cV
  .rw[du y e]at au;exact ap y o au
 obtain⟨F,J0,gW⟩:=avs (K:=fun _ g' n' a'=>∃b' fl',Q a' b'/\Fr pL g' n n' (aO::(fz++(dw++(fA++cU)))) fl'/\nz x kind g' fl' aO b') dQ jL a3 dE bf cy (⟨lR,qW,hZ.b6 fun y ai=>du y fun e=>bq (e▸ai),dr.b6 fun y ai=>du y fun e=>aT (e▸ai),nS.b6 fun y ai=>du y fun e=>cq (e▸ai),qc,mj,rfl,bq,aT,cq,ik,dD⟩:Ip x kind pL _ aO ({b with bH:=false}:bS κ) _ fz dw fA cU) av fun a' b' av g' n' fl' aV ak=>⟨b',fl',av,aV,ak⟩
 have ayN:f.next= .fn (.func F) [.ptr aO 0] []:=J0
 refine aL IC (cw qW ayN @h2) ?_
 refine aR.mono gW fun v qK D8 gx v0 kt=>?_
 obtain⟨b',fl',bO,Gh,Sf⟩:=kt
 intro jN
 have rL:=Sf
 obtain⟨cn,aKm,nC,aKn,aKt,hK⟩:=rL
 have aj:=hK.ak
 have he:=hK.aI.effect
 have jZ:=hK.aI.done
 refine aL IC (cc aj he jZ @h2) ?_
 apply aF
 refine a6 i14.eq_1 ?_
 exact fun _=>.all fun _=>ah _ _ _ _ _ bO (hg.trans ⟨by have:=Gh.az;omega,fun y ai=>by have:=Gh.lt y ai;omega,Gh.sub,Gh.aw⟩) Sf
end
section
variable{κ:fw}{x:hE κ}{kind:Int}{g:G}{n:Nat}{a:aE}{K:cj aE}{fl:List Nat}{aO:Nat}{b:bS κ}
theorem E7(l:List Int):(words l).all V.cell=true:=by simp[words,List.all_map,V.cell]
theorem iG.aDb{v:V}{ks:List V}{fl:List Nat}(h:iG g v ks fl)(aA:bm g n):∀y∈fl,y<n:=by
 rcases h with⟨_,_,rfl⟩|⟨c,J,U,rfl,aK⟩
 .simp
 .intro y ai
  simp only[List.mem_singleton]at ai
  rw[ai];exact aA _ _ aK
theorem I_(ap:bm g n)(bf:∀y∈fl,y<n)(h:nz x kind g fl aO b)(nD:b.e3.length<100000)
 (ah:∀g' n' kv oR e kf hM,n<=n'->(∀y,y<n->g' y=g y)->iG g' kv (words b.e3) kf->iG g' oR (words b.gU) hM->(∀y∈hM,n<=y)->K (.agg [.int .i64 b.no,.int .i64 0,.int .u64 0,.int .i64 0,.br,.int .u64 0,.int .i64 0,kv,oR,.int .i64 b.e3.length,.int .u64 e]) g' n' a):aR ct bA 15 [.ptr aO 0] g n a K:=by
 obtain⟨f,fz,dw,fA,cU,⟨aI,ak,hZ,dr,nS,sub,mj,rfl,de⟩⟩:=h
 have cV:=ap _ _ ak
 obtain⟨e,he⟩:=aI.kb
 have kq:∀y∈fz,y<n:=fun y ai=>bf y (by simp[ai])
 have g9:∀y∈dw,y<n:=fun y ai=>bf y (by simp[ai])
 have bx:List.take 11 (List.drop 18 f.l)=[.int .i64 b.no,.int .i64 0,.int .u64 0,.int .i64 0,.br,.int .u64 0,.int .i64 0,f.mA,f.mB,.int .i64 b.e3.length,.int .u64 e]:=by
  have:List.take 11 (List.drop 18 f.l)=[f.kD,f.ln,f.lo,f.lp,f.lq,f.lr,f.ls,f.mA,f.mB,f.jW,f.kb]:=rfl
  rw[this,aI.kD,aI.ln,aI.lo,aI.lp,aI.lq,aI.lr,aI.ls,aI.jW,he]
 have c1:f.mA.cell=true/\V.same 40 f.mA f.mA=true:=by
  rcases hZ with⟨J,U,_⟩|⟨c,J,U,aq,aK⟩<;>rw[J]<;>simp[V.cell,oO,oN]
 have c2:f.mB.cell=true/\V.same 40 f.mB f.mB=true:=by
  rcases dr with⟨J,U,_⟩|⟨c,J,U,aq,aK⟩<;>rw[J]<;>simp[V.cell,oO,oN]
 refine bE i15 fun N aF=>?_
 have ku:f.l.length=39:=rfl
 refine aL ID (ji ak bx ku c1.1 c2.1 c1.2 c2.2 (ag (I:aO<n)) (ag (I:n<n+1)) (ag (I:aO<n+1))) ?_
 refine xg (ks:=words b.e3) (fl:=fz) (hZ.b6 fun y ai=>?_) (by rw[iS];exact nD) (E7 _) fun bY bq kv kf g4 lH p9 c5=>?_
 .have ai:=kq y ai
  exact bc (aN (ag (I:y<n)) (ag (I:y<n+1)))
 intro dE
 have vg:bY n=some (.al false [.int .i64 0,.int .i64 0,.int .u64 0,.int .i64 0,.br,.int .u64 0,.int .i64 0,.br,.br,.int .i64 0,.int .u64 0]):=by rw[c5 n I];exact dX
 have rl:bY (n+1)=some (.al false [.int .i64 b.no,.int .i64 0,.int .u64 0,.int .i64 0,.br,.int .u64 0,.int .i64 0,f.mA,f.mB,.int .i64 b.e3.length,.int .u64 e]):=by rw[c5 (n+1) I];exact dX
 have eu:kv.cell=true/\V.same 40 kv kv=true/\kv.cells=[kv]:=by
  rcases lH with⟨J,U,_⟩|⟨c,J,U,aq,aK⟩<;>rw[J]<;>simp[V.cell,V.cells,oO,oN]
 refine aL (aN adz.eq_1 ID) (d' vg rl c2.1 c2.2 c1.1 c1.2) ?_
 refine xg (ks:=words b.gU) (fl:=dw) ((dr.b6 fun y ai=>?_).b6 fun y ai=>c5 y (by have:=g9 y ai;omega)) (by rw[iS,mj];exact nD) (E7 _) fun ba c9 oR hM cB uJ mh cQ=>?_
 .have ai:=g9 y ai
  exact bc (aN (ag (I:y<n)) (ag (I:y<n+1)))
 intro dC
 have sY:ba n=some (.al false [.int .i64 0,.int .i64 0,.int .u64 0,.int .i64 0,.br,.int .u64 0,.int .i64 0,.br,.br,.int .i64 0,.int .u64 0]):=by rw[cQ n I];exact vg
 have vh:ba (n+1)=some (.al false [.int .i64 b.no,.int .i64 0,.int .u64 0,.int .i64 0,.br,.int .u64 0,.int .i64 0,f.mA,f.mB,.int .i64 b.e3.length,.int .u64 e]):=by rw[cQ (n+1) I];exact rl
 have jH:oR.cell=true/\V.same 40 oR oR=true/\oR.cells=[oR]:=by
  rcases uJ with⟨J,U,_⟩|⟨c,J,U,aq,aK⟩<;>rw[J]<;>simp[V.cell,V.cells,oO,oN]
 refine aL (aN ady.eq_1 ID) (bs sY vh c2.1 c2.2 c1.1 c1.2 eu.1 eu.2.1 eu.2.2 jH.1 jH.2.1 (aN jH.2.2 (ag (I:n<c9)))) ?_
 apply aF
 refine a6 i15.eq_1 ?_
 intro _
 refine .all (ah _ _ kv oR e kf hM I (fun y ai=>?_) ((lH.b6 fun y ai=>cQ y (lH.aDb dE y ai)).b6 fun y ai=>?_) (uJ.b6 fun y ai=>?_) fun y ai=>by have:=mh y ai;omega)
 .have bP:g y=ba y:=by rw[cQ y I,c5 y I];exact bc (aN (ag (I:y<n)) (ag (I:y<n+1)))
  rw[bP];exact bc (aN (ag (I:y<n)) (ag (I:y<n+1)))
 .have aq:=p9 y ai
  have b3:(n=y)=False:=eq_false I
  have ox:(n+1=y)=False:=eq_false I
  exact bc (aN b3 ox)
 .have aq:=mh y ai
  have b3:(n=y)=False:=eq_false I
  have ox:(n+1=y)=False:=eq_false I
  exact bc (aN b3 ox)
end
section
variable{κ:fw}{x:hE κ}{kind:Int}{g:G}{n:Nat}{a:aE}{K:cj aE}{fl:List Nat}{aO:Nat}{b:bS κ}
def bS.rQ:bS κ:=⟨0,0,[],[],[],0,false,false,false,.first⟩
theorem PG{d1 d2 d3 d4:Int}(ap:bm g n)
 (ah:∀g' n' aO fl,Fr g g' n n' [] fl->nz x kind g' fl aO bS.rQ->K (.ptr aO 0) g' n' a):aR ct bA 12 [.ptr x.X 0,.agg [.int .i64 kind,.int .i64 d1,.int .i64 d2,.int .i64 d3,.int .i64 d4],.agg [.int .i64 4,.int .i64 1,.int .i64 0,.int .i64 64,.int .i64 0,.int .u64 0,.br,.int .i64 1,.int .i64 0,.br,.br,.br]] g n a K:=by
 refine bE i12 fun N aF=>?_
 refine dl IA ?_
 refine xg (ks:=[]) (fl:=[]) (.inl ⟨rfl,rfl,rfl⟩) aM rfl fun bY bq kv kf g4 lH p9 c5=>?_
 intro dE
 have Gr:kv= .br:=by
  rcases lH with⟨h,_⟩|⟨c,_,h,_⟩
  .exact h
  .simp at h
 subst Gr
 have vg:bY n=some (.al false [.int .i64 kind,.int .i64 d1,.int .i64 d2,.int .i64 d3,.int .i64 d4]):=by rw[c5 n I];exact dX
 have rl:bY (n+1)=some (.al false [.int .i64 4,.int .i64 1,.int .i64 0,.int .i64 64,.int .i64 0,.int .u64 0,.br,.int .i64 1,.int .i64 0,.br,.br,.br]):=by rw[c5 (n+1) I];exact dX
 refine aL (aN adr.eq_1 IA) (aN vg rl) ?_
 refine xg (ks:=[]) (fl:=[]) (.inl ⟨rfl,rfl,rfl⟩) aM rfl fun ba aT oR hM cB uJ mh cQ=>?_
 intro dC
 have rP:oR= .br:=by
  rcases uJ with⟨h,_⟩|⟨c,_,h,_⟩
  .exact h
  .simp at h
 subst rP
 have sY:ba n=some (.al false [.int .i64 kind,.int .i64 d1,.int .i64 d2,.int .i64 d3,.int .i64 d4]):=by rw[cQ n I];exact vg
 have vh:ba (n+1)=some (.al false [.int .i64 4,.int .i64 1,.int .i64 0,.int .i64 64,.int .i64 0,.int .u64 0,.br,.int .i64 1,.int .i64 0,.br,.br,.br]):=by rw[cQ (n+1) I];exact rl
 refine aL (aN adq.eq_1 IA) (cc sY vh (ag (I:n<aT)) (ag (I:n+1<aT))) ?_
 apply aF
 refine a6 i12.eq_1 ?_
 intro _
 refine .all (ah _ _ aT [aT] ⟨I,fun y ai=>?_,fun y ai=>?_,fun y ai _=>?_⟩ ⟨⟨.ptr x.X 0,.int .i64 kind,.int .i64 d1,.int .i64 d2,.int .i64 d3,.int .i64 d4,.int .i64 4,.int .i64 1,.int .i64 0,.int .i64 64,.int .i64 0,.int .u64 0,.br,.int .i64 1,.int .i64 0,.br,.br,.br,.int .i64 0,.int .i64 0,.int .u64 0,.int .i64 0,.br,.int .u64 0,.int .i64 0,.br,.br,.int .i64 0,.int .u64 0,.fn (.func 34) [.ptr aT 0] [],.jC,.nil,.br,.int .i64 0,.int .i64 0,.bool false,.bool false,.bool false,.bool false⟩,[],[],[],[],⟨⟨rfl,rfl,rfl,rfl,rfl,rfl,rfl,rfl,rfl,rfl,rfl,rfl,rfl,rfl,rfl,rfl,rfl,rfl,⟨0,rfl⟩,rfl,rfl,rfl,rfl,rfl,rfl⟩,?_,.inl ⟨rfl,rfl,rfl⟩,.inl ⟨rfl,rfl,rfl⟩,.inl ⟨rfl,rfl,rfl⟩,⟨rfl,rfl⟩,rfl,rfl,aM⟩⟩)
 .simp only[List.mem_singleton]at ai;omega
 .simp only[List.mem_singleton]at ai;exact .inr I
 .have bP:g y=ba y:=by rw[cQ y I,c5 y I];exact bc (aN (ag (I:y<n)) (ag (I:y<n+1)))
  rw[bP];exact bc (cw (ag (I:y<n)) (ag (I:y<n+1)) (ag (I:y<aT)))
 .exact bc a2.l.eq_1
end
section
variable{κ:fw}{x:hE κ}{kind:Int}{g:G}{n:Nat}{a:aE}{K:cj aE}{fl:List Nat}{aO:Nat}{b:bS κ}
theorem aMK{p a:Prop}{l q r:Option (List V)}(x:a)(h:l=q)(k:r=q->p)(e:a->l=r:=by intro X;(try simp only[qo,q7,↓Fl,qD,aMT,↓reduceIte,↓reduceDIte,Nat.reduceEqDiff,Nat.reduceAdd,Nat.reduceLeDiff,Nat.reduceLT,Nat.reduceSub,reduceCtorEq,Int.reduceToNat,Int.reduceBEq,Int.reduceBNe,Int.reduceLT,Int.reduceLE,Int.reduceEq,Int.reduceNe,Nat.reduceBEq,Nat.reduceMul,q_,gX,uD,ni,om,yC,z_,sl,x7,pY,nQ,List.drop,List.take,List.set,List.map,Option.map,X])<;>rfl):p:=k ((e x).symm.trans h)
theorem aBU(dQ:kind=4\/kind=5)(ah:∀g' n' dr xs,n<=n'->Ir g' dr xs->xs.length<1000->(2:Int)∈xs->(∀y,y<n->g' y=g y)->K (.bN [.agg [.int .i64 1,.bool (decide (kind=4)),.bool false,dr,.bool (decide (kind=4))],.bool true]) g' n' a):aR ct bA 43 [.int .i64 kind] g n a K:=by
 refine bE i43 fun N aF=>?_
 rcases dQ with rfl|rfl
 .refine fG i43.eq_1 (aN fY.eq_1 @Int.toNat_natCast) ?_
  refine fG (ab HS.eq_1) (aN fY.eq_1 @Int.toNat_natCast) ?_
  refine fG (ab HB.eq_1) (aN fY.eq_1 @Int.toNat_natCast) ?_
  refine fG (ab HT.eq_1) (aN fY.eq_1 @Int.toNat_natCast) ?_
  refine fG (ab HA.eq_1) (aN fY.eq_1 @Int.toNat_natCast) ?_
  refine fG (ab HU.eq_1) (aN fY.eq_1 @Int.toNat_natCast) ?_
  refine fG (ab Hz.eq_1) (aN fY.eq_1 @Int.toNat_natCast) ?_
  refine fG (ab HV.eq_1) (aN fY.eq_1 @Int.toNat_natCast) ?_
  refine fG (ab Hy.eq_1) (aN fY.eq_1 @Int.toNat_natCast) ?_
  refine fG (ab HW.eq_1) (aN fY.eq_1 @Int.toNat_natCast) ?_
  refine fG (ab Hx.eq_1) (aN fY.eq_1 @Int.toNat_natCast) ?_
  refine fG (ab HX.eq_1) (aN fY.eq_1 @Int.toNat_natCast) ?_
  refine fG (ab Hw.eq_1) (aN fY.eq_1 @Int.toNat_natCast) ?_
  refine fG (ab HY.eq_1) (aN fY.eq_1 @Int.toNat_natCast) ?_
  refine fG (ab HC.eq_1) (aN fY.eq_1 @Int.toNat_natCast) ?_
  refine fG (ab Hv.eq_1) (aN fY.eq_1 @Int.toNat_natCast) ?_
  refine fG (ab HZ.eq_1) (aN fY.eq_1 @Int.toNat_natCast) ?_
  apply aF
  generalize av:qo _ _ _=q
  refine aMK i43.eq_1 av fun h=>?_
  subst h
  intro _
  refine .all (ah _ _ (.slice (n+4) 0 5 5 1) [3,5,1,2,4] I ⟨n+4,5,false,[.int .i64 3,.int .i64 5,.int .i64 1,.int .i64 2,.int .i64 4],rfl,dX,fun j ax=>?_⟩ aM aM fun y ai=>?_)
  .match j,ax with
   |0,_=>rfl
   |1,_=>rfl
   |2,_=>rfl
   |3,_=>rfl
   |4,_=>rfl
  .exact bc (ag (I:y<n))
 .refine fG i43.eq_1 (aN fY.eq_1 @Int.toNat_natCast) ?_
  refine fG (ab HS.eq_1) (aN fY.eq_1 @Int.toNat_natCast) ?_
  refine fG (ab HB.eq_1) (aN fY.eq_1 @Int.toNat_natCast) ?_
  refine fG (ab HT.eq_1) (aN fY.eq_1 @Int.toNat_natCast) ?_
  refine fG (ab HA.eq_1) (aN fY.eq_1 @Int.toNat_natCast) ?_
  refine fG (ab HU.eq_1) (aN fY.eq_1 @Int.toNat_natCast) ?_
  refine fG (ab Hz.eq_1) (aN fY.eq_1 @Int.toNat_natCast) ?_
  refine fG (ab HV.eq_1) (aN fY.eq_1 @Int.toNat_natCast) ?_
  refine fG (ab Hy.eq_1) (aN fY.eq_1 @Int.toNat_natCast) ?_
  refine fG (ab HW.eq_1) (aN fY.eq_1 @Int.toNat_natCast) ?_
  refine fG (ab Hx.eq_1) (aN fY.eq_1 @Int.toNat_natCast) ?_
  refine fG (ab HX.eq_1) (aN fY.eq_1 @Int.toNat_natCast) ?_
  refine fG (ab Hw.eq_1) (aN fY.eq_1 @Int.toNat_natCast) ?_
  refine fG (ab HY.eq_1) (aN fY.eq_1 @Int.toNat_natCast) ?_
  refine fG (ab HC.eq_1) (aN fY.eq_1 @Int.toNat_natCast) ?_
  refine fG (ab Hv.eq_1) (aN fY.eq_1 @Int.toNat_natCast) ?_
  refine fG (ab HZ.eq_1) (aN fY.eq_1 @Int.toNat_natCast) ?_
  apply aF
  generalize av:qo _ _ _=q
  refine aMK i43.eq_1 av fun h=>?_
  subst h
  intro _
  refine .all (ah _ _ (.slice (n+4) 0 5 5 1) [3,5,1,2,4] I ⟨n+4,5,false,[.int .i64 3,.int .i64 5,.int .i64 1,.int .i64 2,.int .i64 4],rfl,dX,fun j ax=>?_⟩ aM aM fun y ai=>?_)
  .match j,ax with
   |0,_=>rfl
   |1,_=>rfl
   |2,_=>rfl
   |3,_=>rfl
   |4,_=>rfl
  .exact bc (ag (I:y<n))
theorem aw3(dQ:kind=4\/kind=5)(ah:∀g' n',n<=n'->(∀y,y<n->g' y=g y)->K (.bool true) g' n' a):aR ct bA 54 [.int .i64 kind,.int .i64 2] g n a K:=by
 refine bE i54 fun N aF=>?_
 refine dl IU ?_
 refine aBU dQ fun bY bq dr xs g4 aa aA U c5=>?_
 intro dE
 obtain⟨c,cap,ro,vs,rfl,af,aj⟩:=aa
 have sE:=dE _ _ af
 refine dl (aN aeq.eq_1 IU) ?_
 refine KX (xs:=xs) ⟨c,cap,ro,vs,rfl,bc (aN af (ag (I:c<bq))),aj⟩ aA fun aT cB=>?_
 intro dC
 have aH:decide ((2:Int)∈xs)=true:=by simp[U]
 refine aL (aN aer.eq_1 IU) aH ?_
 apply aF
 refine a6 i54.eq_1 ?_
 intro _
 refine .all (ah _ _ I fun y ai=>?_)
 rw[<-c5 y ai]
 have e:y<bq:=I
 exact bc (ag (I:y<bq))
end
section
variable{κ:fw}{x:hE κ}{kind:Int}{g:G}{n:Nat}{a:aE}{K:cj aE}{fl:List Nat}{aO:Nat}{b:bS κ}
structure Ai(x:hE κ)(kind:Int) where
 db:Nat
 d1:Int
 d3:Int
 Rw:x.Qo= .slice db 0 1 1 5
 Rq:x.Qi=1
 lT:(db,bt.al false [.int .i64 kind,.int .i64 d1,.int .i64 1,.int .i64 d3,.int .i64 0])∈κ.dv
theorem aF3{key:Int}{ch:Nat}(D:Ai x kind)(dQ:kind=4\/kind=5)(cC:ey κ.dv g)(ap:bm g n)(ah:∀g' n',n<=n'->(∀y,y<n->g' y=g y)->K (.bool true) g' n' a):aR ct bA 35 [.ptr x.X 0,.int .i64 1,.agg [.int .i64 2,.int .u64 key,.slice ch 0 1 1 1,.int .i64 0,.int .i64 0]] g n a K:=by
 obtain⟨db,d1,d3,Rw,Rq,lT⟩:=D
 have aD:=cC _ x.tf
 have aJ:=cC _ lT
 simp only[Rw,Rq]at aD aJ
 have tv:=ap _ _ aD
 have qf:=ap _ _ aJ
 refine bE i35 fun N aF=>?_
 have w0:IntKind.wrap .i64 ((1:Int)-1)=0:=rfl
 refine aL IS (kw aD aJ w0 @lK @Int.lt_irrefl @Int.toNat_natCast (ag (I:x.X<n)) (ag (I:db<n)) (ag (I:n<n+1)) (ag (I:x.X<n+1)) (ag (I:db<n+1))) ?_
 refine aw3 dQ fun bY bq g4 c5=>?_
 intro dE
 have jr:bY n=some (.al false [.int .i64 2,.int .u64 key,.slice ch 0 1 1 1,.int .i64 0,.int .i64 0]):=by rw[c5 n I];exact dX
 have rm:bY (n+1)=some (.al false [.int .i64 kind,.int .i64 d1,.int .i64 1,.int .i64 d3,.int .i64 0]):=by rw[c5 (n+1) I];exact dX
 have Ak:bY x.X=some (.al false [.ptr κ.an 0,.slice db 0 1 1 5,.int .i64 1,.slice x.gF 0 1 1 4]):=by rw[c5 x.X I];exact bc (cw aD (ag (I:x.X<n)) (ag (I:x.X<n+1)))
 have jj:(kind=2)=False:=eq_false I
 have aBJ:(kind=8)=False:=eq_false I
 have zA:(kind=6)=False:=eq_false I
 refine aL (aN ad8.eq_1 IS) (kw jr rm Ak jj zA aBJ @lK @Int.lt_irrefl (ag (I:n<bq)) (ag (I:n+1<bq)) (ag (I:x.X<bq))) ?_
 refine KX (xs:=[0,1,2]) ⟨bq+1,3,false,[.int .i64 0,.int .i64 1,.int .i64 2],rfl,dX,fun j ax=>?_⟩ aM fun aT cB=>?_
 .match j,ax with
  |0,_=>rfl
  |1,_=>rfl
  |2,_=>rfl
 intro dC
 have aH:decide ((0:Int)∈[(0:Int),1,2])=true:=rfl
 refine aL (aN ad7.eq_1 IS) (bs aH jr rm Ak @lK @Int.lt_irrefl (ag (I:n<bq)) (ag (I:n+1<bq)) (ag (I:x.X<bq)) (ag (I:n<bq+1)) (ag (I:n+1<bq+1)) (aN (ag (I:bq<bq+1)) (ag (I:x.X<bq+1)))) ?_
 apply aF
 refine a6 i35.eq_1 ?_
 intro _
 refine .all (ah _ _ I fun y ai=>?_)
 have bP:bY y=g y:=by rw[c5 y I];exact bc (ag (I:y<n))
 rw[<-bP]
 exact bc (ag (I:y<bq))
def Cf(κ:fw)(g:G)(fl:List Nat)(lb:Nat)(l:κ.L):Prop:=∃y cU,g lb=some (.al false [y])/\κ.uR g cU y l/\fl=lb::cU/\lb∉cU
theorem avB{key val:Int}{ch:Nat}(D:Ai x kind)(jJ:V.same 40 κ.aI κ.aI=true)(dQ:kind=4\/kind=5)(cC:ey κ.dv g)(a3:a.an=κ.an/\a.ar=κ.ar)(ap:bm g n)(hv:g ch=some (.al false [.int .u64 val]))(ah:∀g' n' lb fl l,κ.zF key val l->Fr g g' n n' [] fl->Cf κ g' fl lb l->K (.ptr lb 0) g' n' a):aR ct bA 13 [.ptr x.X 0,.int .i64 1,.agg [.int .i64 2,.int .u64 key,.slice ch 0 1 1 1,.int .i64 0,.int .i64 0]] g n a K:=by
 have aD:=cC _ x.tf
 have aJ:=cC _ x.y3
 simp only at aD aJ
 have tv:=ap _ _ aD
 have qf:=ap _ _ aJ
 have cF:=ap _ _ hv
 refine bE i13 fun N aF=>?_
 have w0:IntKind.wrap .i64 ((1:Int)-1)=0:=rfl
 refine aL IB (cw aD aJ w0) ?_
 have azo:ey κ.dv (a1 g n (bt.al false [.int .i64 2,.int .u64 key,.slice ch 0 1 1 1,.int .i64 0,.int .i64 0])):=fun q av=>by
  have:=ap _ _ (cC q av)
  rw[bJ,if_neg I];exact cC q av
 refine dO fun Dz=>aF3 D dQ azo Dz fun bY bq g4 c5=>?_
 intro dE
 have j1:∀y,y<n->bY y=g y:=fun y ai=>by rw[c5 y I];exact bc (ag (I:y<n))
 have jL:ey κ.dv bY:=fun q av=>by rw[j1 _ (ap _ _ (cC q av))];exact cC q av
 have jr:bY n=some (.al false [.int .i64 2,.int .u64 key,.slice ch 0 1 1 1,.int .i64 0,.int .i64 0]):=by rw[c5 n I];exact dX
 have rm:=j1 x.X tv
 rw[aD]at rm
 have Ak:=j1 x.gF qf
 rw[aJ]at Ak
 have Sk:V.same 40 (V.agg [.int .i64 2,.int .u64 key,.slice ch 0 1 1 1,.int .i64 0,.int .i64 0]) (V.agg [.int .i64 2,.int .u64 key,.slice ch 0 1 1 1,.int .i64 0,.int .i64 0])=true:=nP rfl
 have Gl:∀y,y<bq->lF bY bq 14 y=bY y:=fun y ai=>xM ai
 have jz:bm (lF bY bq 14) (bq+14):=fun y o au=>by
  rcases Nat.lt_or_ge y (bq+14)with h|h
  .exact h
  .rw[wb,if_neg I]at au;have:=dE _ _ au;omega
 have p4:ey κ.dv (lF bY bq 14):=fun q av=>by rw[Gl _ (dE _ _ (jL q av))];exact jL q av
 obtain⟨id,first,cap,lR,gW⟩:=κ.Bt (K:=fun y ba aT b7=>b7=a/\∃cU l,κ.zF key val l/\Fr (lF bY bq 14) ba (bq+14) aT [] cU/\κ.uR ba cU y l/\y.cell=true/\y.cells=[y]/\y.known=true/\V.same 40 y y=true) p4 a3 jz (by rw[Gl ch I,j1 ch cF];exact hv) fun ba aT cU y l J U aq aK=>⟨rfl,cU,l,J,U,aq,aK⟩
 rw[lR]at Ak jJ
 refine aL (aN ads.eq_1 IB) (ji jr rm Ak w0 jJ Sk @Int.lt_irrefl (ag (I:n<bq)) (ag (I:x.X<bq)) (ag (I:x.gF<bq))) ?_
 refine aR.mono gW fun y ba aT b7 cB eJ=>?_
 obtain⟨rfl,cU,l,zd,h8,KP,hr,g2,nE,tg⟩:=eJ
 intro dC
 have bd:kB bq 14 ba:=fun i aC=>by rw[h8.aw _ I aM];exact⟨_,KY aC⟩
 refine⟨bd,?_⟩
 have hP:ba n=some (.al false [.int .i64 2,.int .u64 key,.slice ch 0 1 1 1,.int .i64 0,.int .i64 0]):=by rw[h8.aw _ I aM,Gl n I];exact jr
 refine aL (aN adt.eq_1 IB) (gq hP hr g2 nE tg Sk bd) ?_
 apply aF
 refine a6 i13.eq_1 ?_
 intro _
 have m7:∀y∈cU,bq+14<=y:=fun y ai=>by
  rcases h8.sub y ai with h|h
  .simp at h
  .exact h
 have du:∀z,z≠bq+12->(a1 ba (bq+12) (bt.al false [y])) z=ba z:=fun z bB=>by rw[bJ,if_neg (fun e=>bB e.symm)]
 have AW:ey κ.dv ba:=fun q av=>by rw[h8.aw _ (by have:=dE _ _ (jL q av);omega) aM];exact p4 q av
 have Ga:ey κ.dv (a1 ba (bq+12) (bt.al false [y])):=fun q av=>by rw[du _ (by have:=ap _ _ (cC q av);omega)];exact AW q av
 refine .all (ah _ _ (bq+12) ((bq+12)::cU) l zd ⟨I,fun z bB=>?_,fun z bB=>?_,fun z bB _=>?_⟩ ⟨y,cU,by rw[bJ,if_pos rfl],κ.G2 KP AW Ga fun z bB=>du z (by have:=m7 z bB;omega),rfl,fun hm=>by have:=m7 _ hm;omega⟩)
 .simp only[List.mem_cons]at bB
  rcases bB with rfl|bB
  .omega
  .exact h8.lt z bB
 .simp only[List.mem_cons]at bB
  rcases bB with rfl|bB
  .exact .inr I
  .have:=m7 z bB;exact .inr I
 .rw[du z I,h8.aw z I aM,Gl z I,j1 z bB]
end
section
variable{κ:fw}{x:hE κ}{kind:Int}{g:G}{n:Nat}{α:Type}{A:h3 α}{a:α}{K:cj α}{fl:List Nat}{aO:Nat}{b:bS κ}
theorem T3(w:Int):∃c:Int,∀{g:G} {n:Nat} {α:Type} {A:h3 α} {a:α} {K:cj α},(∀n',n<=n'->K (.int .i64 c) g n' a)->aR A bA 45 [.int .u64 w] g n a K:=by
 apply Exists.intro
 intro g n α A a K ah
 refine bE i45 fun N aF=>?_
 refine dl O_ ?_
 refine bE i76 fun pO je=>?_
 refine JC au1 ?_
 apply je
 refine a6 i76.eq_1 ?_
 intro az
 refine .all ?_
 intro aA
 refine dl (aN aek.eq_1 O_) ?_
 apply aF
 refine a6 i45.eq_1 ?_
 exact fun _=>.all (ah _ I)
theorem aEp{w:Int}(ah:∀n',n<=n'->K (.int .i64 (Classical.choose (T3 w))) g n' a):aR A bA 45 [.int .u64 w] g n a K:=Classical.choose_spec (T3 w) ah
theorem E5{w z:Int}(ah:∀n',n<=n'->K (.bool (decide (1<=w/\w<=z))) g n' a):aR A bA 44 [.int .i64 w,.int .i64 z] g n a K:=by
 refine bE i44 fun N aF=>?_
 by_cases J:1<=w
 .by_cases U:w<=z
  .have aH:decide (1<=w/\w<=z)=true:=by simp[J,U]
   rw[aH]at ah
   refine aL IT (aN J U) ?_
   apply aF
   refine a6 i44.eq_1 ?_
   exact fun _=>.all (ah _ I)
  .have aH:decide (1<=w/\w<=z)=false:=by simp[U]
   rw[aH]at ah
   refine aL IT (aN J U) ?_
   apply aF
   refine a6 i44.eq_1 ?_
   exact fun _=>.all (ah _ I)
 .have aH:decide (1<=w/\w<=z)=false:=by simp[J]
  rw[aH]at ah
  refine aL IT J ?_
  apply aF
  refine a6 i44.eq_1 ?_
  exact fun _=>.all (ah _ I)
end
section
variable{κ:fw}{x:hE κ}{kind:Int}{g:G}{n:Nat}{α:Type}{A:h3 α}{a:α}{K:cj α}{fl:List Nat}{aO:Nat}{b:bS κ}
theorem Lw(ah:∀g' n' dr m b1 b2 b3 ok,n<=n'->(∀y,y<n->g' y=g y)->(dr.cell=true/\V.same 40 dr dr=true/\dr.cells=[dr])->(kind=4->m=1/\b1=true/\b2=false/\ok=true)->(kind=5->m=1/\b1=false/\b2=false/\ok=true)->K (.bN [.agg [.int .i64 m,.bool b1,.bool b2,dr,.bool b3],.bool ok]) g' n' a):aR A bA 43 [.int .i64 kind] g n a K:=by
 refine bE i43 fun N aF=>?_
 refine fG rv (aN fY.eq_1 @Int.toNat_natCast) ?_
 have af:kind<1\/11<=kind\/kind=1\/kind=2\/kind=3\/kind=4\/kind=5\/kind=6\/kind=7\/kind=8\/kind=9\/kind=10:=I
 rcases af with h|h|rfl|rfl|rfl|rfl|rfl|rfl|rfl|rfl|rfl|rfl
 .have c1:(kind<1)=True:=eq_true h
  refine aL rv c1 ?_
  apply aF
  generalize av:qo _ _ _=q
  refine aMK i43.eq_1 av fun h=>?_
  subst h
  intro _
  refine .all (ah _ _ _ _ _ _ _ _ I (fun y ai=>bc (ag (I:y<n))) ⟨by simp[V.cell],by simp[oN,oO],by simp[V.cells]⟩ (fun h=>I) (fun h=>I))
 .have c1:((kind<1)=False/\(11<=kind)=True):=⟨eq_false I,eq_true h⟩
  refine aL rv (aN c1.1 c1.2) ?_
  apply aF
  generalize av:qo _ _ _=q
  refine aMK i43.eq_1 av fun h=>?_
  subst h
  intro _
  refine .all (ah _ _ _ _ _ _ _ _ I (fun y ai=>bc (ag (I:y<n))) ⟨by simp[V.cell],by simp[oN,oO],by simp[V.cells]⟩ (fun h=>I) (fun h=>I))
 .refine aL rv @Int.toNat_natCast ?_
  apply aF
  generalize av:qo _ _ _=q
  refine aMK i43.eq_1 av fun h=>?_
  subst h
  intro _
  refine .all (ah _ _ _ _ _ _ _ _ I (fun y ai=>bc (ag (I:y<n))) ⟨by simp[V.cell],by simp[oN,oO],by simp[V.cells]⟩ aM aM)
 .refine aL rv @Int.toNat_natCast ?_
  apply aF
  generalize av:qo _ _ _=q
  refine aMK i43.eq_1 av fun h=>?_
  subst h
  intro _
  refine .all (ah _ _ _ _ _ _ _ _ I (fun y ai=>bc (ag (I:y<n))) ⟨by simp[V.cell],by simp[oN,oO],by simp[V.cells]⟩ aM aM)
 .refine aL rv @Int.toNat_natCast ?_
  apply aF
  generalize av:qo _ _ _=q
  refine aMK i43.eq_1 av fun h=>?_
  subst h
  intro _
  refine .all (ah _ _ _ _ _ _ _ _ I (fun y ai=>bc (ag (I:y<n))) ⟨by simp[V.cell],by simp[oN,oO],by simp[V.cells]⟩ aM aM)
 .refine aL rv @Int.toNat_natCast ?_
  apply aF
  generalize av:qo _ _ _=q
  refine aMK i43.eq_1 av fun h=>?_
  subst h
  intro _
  refine .all (ah _ _ _ _ _ _ _ _ I (fun y ai=>bc (ag (I:y<n))) ⟨by simp[V.cell],by simp[oN,oO],by simp[V.cells]⟩ aM aM)
 .refine aL rv @Int.toNat_natCast ?_
  apply aF
  generalize av:qo _ _ _=q
  refine aMK i43.eq_1 av fun h=>?_
  subst h
  intro _
  refine .all (ah _ _ _ _ _ _ _ _ I (fun y ai=>bc (ag (I:y<n))) ⟨by simp[V.cell],by simp[oN,oO],by simp[V.cells]⟩ aM aM)
 .refine aL rv @Int.toNat_natCast ?_
  apply aF
  generalize av:qo _ _ _=q
  refine aMK i43.eq_1 av fun h=>?_
  subst h
  intro _
  refine .all (ah _ _ _ _ _ _ _ _ I (fun y ai=>bc (ag (I:y<n))) ⟨by simp[V.cell],by simp[oN,oO],by simp[V.cells]⟩ aM aM)
 .refine aL rv @Int.toNat_natCast ?_
  apply aF
  generalize av:qo _ _ _=q
  refine aMK i43.eq_1 av fun h=>?_
  subst h
  intro _
  refine .all (ah _ _ _ _ _ _ _ _ I (fun y ai=>bc (ag (I:y<n))) ⟨by simp[V.cell],by simp[oN,oO],by simp[V.cells]⟩ aM aM)
 .refine aL rv @Int.toNat_natCast ?_
  apply aF
  generalize av:qo _ _ _=q
  refine aMK i43.eq_1 av fun h=>?_
  subst h
  intro _
  refine .all (ah _ _ _ _ _ _ _ _ I (fun y ai=>bc (ag (I:y<n))) ⟨by simp[V.cell],by simp[oN,oO],by simp[V.cells]⟩ aM aM)
 .refine aL rv @Int.toNat_natCast ?_
  apply aF
  generalize av:qo _ _ _=q
  refine aMK i43.eq_1 av fun h=>?_
  subst h
  intro _
  refine .all (ah _ _ _ _ _ _ _ _ I (fun y ai=>bc (ag (I:y<n))) ⟨by simp[V.cell],by simp[oN,oO],by simp[V.cells]⟩ aM aM)
 .refine aL rv @Int.toNat_natCast ?_
  apply aF
  generalize av:qo _ _ _=q
  refine aMK i43.eq_1 av fun h=>?_
  subst h
  intro _
  refine .all (ah _ _ _ _ _ _ _ _ I (fun y ai=>bc (ag (I:y<n))) ⟨by simp[V.cell],by simp[oN,oO],by simp[V.cells]⟩ aM aM)
end
section
variable{κ:fw}{x:hE κ}{kind:Int}{g:G}{n:Nat}{α:Type}{A:h3 α}{a:α}{K:cj α}{fl:List Nat}{aO:Nat}{b:bS κ}
def rY(kind d1 d2 d3 d4:Int):Prop:=(kind=4->(1<=d1/\d1<=64)/\d2=1/\(1<=d3/\d3<=32)/\d4=0/\Classical.choose (T3 (IntKind.wrap .u64 d3))=1)/\(kind=5->(1<=d1/\d1<=64)/\d2=1/\d3=0/\d4=0)
theorem awL{db:Nat}{ro:Bool}{d1 d2 d3 d4:Int}(ap:bm g n)(lT:g db=some (.al ro [.int .i64 kind,.int .i64 d1,.int .i64 d2,.int .i64 d3,.int .i64 d4]))
 (ah:∀g' n' c,n<=n'->(∀y,y<n->g' y=g y)->(c=0->rY kind d1 d2 d3 d4)->(rY kind d1 d2 d3 d4->kind=4\/kind=5->c=0)->K (.int .i64 c) g' n' a):aR A bA 25 [.slice db 0 1 1 5,.agg [.int .i64 kind,.int .i64 d1,.int .i64 d2,.int .i64 d3,.int .i64 d4]] g n a K:=by
 have wk:=ap _ _ lT
 refine bE i25 fun N aF=>?_
 refine dl lm ?_
 refine Lw fun bY bq dr m b1 b2 b3 ok g4 c5 uJ kt lW=>?_
 intro dE
 have jr:bY n=some (.al false [.int .i64 kind,.int .i64 d1,.int .i64 d2,.int .i64 d3,.int .i64 d4]):=by rw[c5 n I];exact dX
 have rm:bY db=some (.al ro [.int .i64 kind,.int .i64 d1,.int .i64 d2,.int .i64 d3,.int .i64 d4]):=by rw[c5 db I];exact bc (aN lT (ag (I:db<n)))
 have j1:∀y,y<n->bY y=g y:=fun y ai=>by rw[c5 y I];exact bc (ag (I:y<n))
 have S8:=uJ.1
 have QG:=uJ.2.1
 have Qj:=uJ.2.2
 cases ok with
 |false=>
  refine aL (cc ME.eq_1 HI.eq_1 wF.eq_1 lm) (d' jr S8 QG Qj (ag (I:n<bq)) (ag (I:db<bq))) ?_
  apply aF
  refine a6 i25.eq_1 ?_
  intro _
  refine .all (ah _ _ _ I (fun y ai=>?_) (fun h=>by simp at h) (fun⟨i_,nm⟩ dQ=>by
   rcases dQ with aK|aK
   .have q:=i_ aK
    have r:=kt aK
    first|(exfalso;omega)|(exfalso;simp at r;done)
   .have q:=nm aK
    have r:=lW aK
    first|(exfalso;omega)|(exfalso;simp at r;done)))
  rw[<-j1 y ai]
  exact bc (ag (I:y<bq))
 |true=>
  refine aL (aN ME.eq_1 lm) (d' jr S8 QG Qj (ag (I:n<bq)) (ag (I:db<bq))) ?_
  refine E5 fun aT cB=>?_
  intro dC
  have l7:(a1 (a1 bY bq (bt.al false [.int .i64 0,.bool false,.bool false,.br,.bool false])) bq (bt.al false [.int .i64 m,.bool b1,.bool b2,dr,.bool b3])) n=some (.al false [.int .i64 kind,.int .i64 d1,.int .i64 d2,.int .i64 d3,.int .i64 d4]):=bc (aN jr (ag (I:n<bq)))
  have H1:(a1 (a1 bY bq (bt.al false [.int .i64 0,.bool false,.bool false,.br,.bool false])) bq (bt.al false [.int .i64 m,.bool b1,.bool b2,dr,.bool b3])) bq=some (.al false [.int .i64 m,.bool b1,.bool b2,dr,.bool b3]):=dX
  have n0:(a1 (a1 bY bq (bt.al false [.int .i64 0,.bool false,.bool false,.br,.bool false])) bq (bt.al false [.int .i64 m,.bool b1,.bool b2,dr,.bool b3])) db=some (.al ro [.int .i64 kind,.int .i64 d1,.int .i64 d2,.int .i64 d3,.int .i64 d4]):=bc (aN rm (ag (I:db<bq)))
  have pt:∀y,y<n->(a1 (a1 bY bq (bt.al false [.int .i64 0,.bool false,.bool false,.br,.bool false])) bq (bt.al false [.int .i64 m,.bool b1,.bool b2,dr,.bool b3])) y=g y:=fun y ai=>by rw[<-j1 y ai];exact bc (ag (I:y<bq))
  generalize(a1 (a1 bY bq (bt.al false [.int .i64 0,.bool false,.bool false,.br,.bool false])) bq (bt.al false [.int .i64 m,.bool b1,.bool b2,dr,.bool b3]))=aJI at l7 H1 n0 pt |-
  have aLk:n+1<=bq:=I
  by_cases lB:1<=d1/\d1<=64
  .have jZ:decide (1<=d1/\d1<=64)=true:=decide_eq_true lB
   refine aL (aN HI.eq_1 lm) (cc l7 H1 n0 jZ) ?_
   refine E5 fun cq iJ=>?_
   intro gB
   by_cases qQ:1<=d2/\d2<=m
   .have vP:decide (1<=d2/\d2<=m)=true:=decide_eq_true qQ
    cases b1 with
    |true=>
     refine aL (aN wF.eq_1 lm) (cc l7 H1 n0 vP) ?_
     refine E5 fun ik v0=>?_
     intro jN
     by_cases uB:1<=d3/\d3<=32
     .have hf:decide (1<=d3/\d3<=32)=true:=decide_eq_true uB
      refine aL (aN z2.eq_1 lm) (cc l7 H1 n0 hf) ?_
      refine aEp fun dD v3=>?_
      intro p_
      by_cases bx:Classical.choose (T3 (IntKind.wrap .u64 d3))=1
      .have iX:(Classical.choose (T3 (IntKind.wrap .u64 d3)) != 1)=false:=by simp[bx]
       cases b2 with
       |true=>
        refine aL (aN u4.eq_1 lm) (eW l7 H1 n0 iX @lK) ?_
        refine E5 fun kh DD=>?_
        intro xE
        by_cases p5:1<=d4/\d4<=1
        .have Kr:d4=1:=I
         subst Kr
         have y6:decide ((1:Int)<=1/\(1:Int)<=1)=true:=rfl
         have w0:IntKind.wrap .i64 ((1:Int)-1)=0:=rfl
         refine aL (aN wE.eq_1 lm) (d' l7 H1 n0 y6 w0 @Int.lt_irrefl) ?_
         refine Lw fun JS nl aH1 Tg c1 c2 eu aEc R2 vR zk _ _=>?_
         intro A6
         have DW:=zk.1
         have CJ:=zk.2.1
         have CE:=zk.2.2
         have yW:∀y,y<n->JS y=g y:=fun y ai=>by rw[vR y I,pt y ai]
         cases c2 with
         |true=>
          refine aL (aN Es.eq_1 lm) (cw DW CJ CE) ?_
          apply aF
          refine a6 i25.eq_1 ?_
          intro _
          refine .all (ah _ _ _ I (fun y ai=>?_) (fun h=>by simp at h) (fun⟨i_,nm⟩ dQ=>by
           rcases dQ with aK|aK
           .have r:=kt aK
            exfalso;simp at r
           .have r:=lW aK
            exfalso;simp at r))
          rw[<-yW y ai]
          exact bc (ag (I:y<nl))
         |false=>
          refine aL (aN Es.eq_1 lm) (cw DW CJ CE) ?_
          apply aF
          refine a6 i25.eq_1 ?_
          intro _
          refine .all (ah _ _ _ I (fun y ai=>?_) (fun h=>⟨fun aK=>?_,fun yU=>?_⟩) (fun _ _=>rfl))
          .rw[<-yW y ai]
           exact bc (ag (I:y<nl))
          .have:=(kt aK).2.2.1;simp at this
          .have:=(lW yU).2.2.1;simp at this
        .have y6:decide (1<=d4/\d4<=1)=false:=decide_eq_false p5
         refine aL (aN wE.eq_1 lm) (cc l7 H1 n0 y6) ?_
         apply aF
         refine a6 i25.eq_1 ?_
         intro _
         exact .all (ah _ _ _ I pt (fun h=>by simp at h) (fun⟨i_,nm⟩ dQ=>by
          rcases dQ with aK|aK
          .have q:=i_ aK
           have r:=kt aK
           first|(exfalso;omega)|(exfalso;simp at r;done)
          .have q:=nm aK
           have r:=lW aK
           first|(exfalso;omega)|(exfalso;simp at r;done)))
       |false=>
        by_cases p5:d4=0
        .have g0:(d4 != 0)=false:=by simp[p5]
         refine aL (cw u4.eq_1 wE.eq_1 lm) (d' l7 H1 n0 iX g0 @lK) ?_
         apply aF
         refine a6 i25.eq_1 ?_
         intro _
         refine .all (ah _ _ _ I pt (fun h=>⟨fun aK=>?_,fun yU=>?_⟩) (fun _ _=>rfl))
         .have cp:=kt aK
          exact⟨lB,I,uB,p5,bx⟩
         .have cp:=lW yU
          simp at cp
        .have g0:(d4 != 0)=true:=by simp[p5]
         refine aL (cw u4.eq_1 wE.eq_1 lm) (d' l7 H1 n0 iX g0 @lK) ?_
         apply aF
         refine a6 i25.eq_1 ?_
         intro _
         exact .all (ah _ _ _ I pt (fun h=>by simp at h) (fun⟨i_,nm⟩ dQ=>by
          rcases dQ with aK|aK
          .have q:=i_ aK
           have r:=kt aK
           first|(exfalso;omega)|(exfalso;simp at r;done)
          .have q:=nm aK
           have r:=lW aK
           first|(exfalso;omega)|(exfalso;simp at r;done)))
      .have iX:(Classical.choose (T3 (IntKind.wrap .u64 d3)) != 1)=true:=by simp[bx]
       refine aL (aN u4.eq_1 lm) (cc l7 H1 n0 iX) ?_
       apply aF
       refine a6 i25.eq_1 ?_
       intro _
       exact .all (ah _ _ _ I pt (fun h=>by simp at h) (fun⟨i_,nm⟩ dQ=>by
        rcases dQ with aK|aK
        .have q:=i_ aK
         have r:=kt aK
         first|(exfalso;omega)|(exfalso;simp at r;done)
        .have q:=nm aK
         have r:=lW aK
         first|(exfalso;omega)|(exfalso;simp at r;done)))
     .have hf:decide (1<=d3/\d3<=32)=false:=decide_eq_false uB
      refine aL (cw z2.eq_1 u4.eq_1 lm) (cc l7 H1 n0 hf) ?_
      apply aF
      refine a6 i25.eq_1 ?_
      intro _
      exact .all (ah _ _ _ I pt (fun h=>by simp at h) (fun⟨i_,nm⟩ dQ=>by
       rcases dQ with aK|aK
       .have q:=i_ aK
        have r:=kt aK
        first|(exfalso;omega)|(exfalso;simp at r;done)
       .have q:=nm aK
        have r:=lW aK
        first|(exfalso;omega)|(exfalso;simp at r;done)))
    |false=>
     by_cases uB:d3=0
     .have bP:(d3 != 0)=false:=by simp[uB]
      cases b2 with
      |true=>
       refine aL (cc wF.eq_1 z2.eq_1 u4.eq_1 lm) (d' l7 H1 n0 vP bP @lK) ?_
       refine E5 fun kh DD=>?_
       intro xE
       by_cases p5:1<=d4/\d4<=1
       .have Kr:d4=1:=I
        subst Kr
        have y6:decide ((1:Int)<=1/\(1:Int)<=1)=true:=rfl
        have w0:IntKind.wrap .i64 ((1:Int)-1)=0:=rfl
        refine aL (aN wE.eq_1 lm) (d' l7 H1 n0 y6 w0 @Int.lt_irrefl) ?_
        refine Lw fun JS nl aH1 Tg c1 c2 eu aEc R2 vR zk _ _=>?_
        intro A6
        have DW:=zk.1
        have CJ:=zk.2.1
        have CE:=zk.2.2
        have yW:∀y,y<n->JS y=g y:=fun y ai=>by rw[vR y I,pt y ai]
        cases c2 with
        |true=>
         refine aL (aN Es.eq_1 lm) (cw DW CJ CE) ?_
         apply aF
         refine a6 i25.eq_1 ?_
         intro _
         refine .all (ah _ _ _ I (fun y ai=>?_) (fun h=>by simp at h) (fun⟨i_,nm⟩ dQ=>by
          rcases dQ with aK|aK
          .have r:=kt aK
           exfalso;simp at r
          .have r:=lW aK
           exfalso;simp at r))
         rw[<-yW y ai]
         exact bc (ag (I:y<nl))
        |false=>
         refine aL (aN Es.eq_1 lm) (cw DW CJ CE) ?_
         apply aF
         refine a6 i25.eq_1 ?_
         intro _
         refine .all (ah _ _ _ I (fun y ai=>?_) (fun h=>⟨fun aK=>?_,fun yU=>?_⟩) (fun _ _=>rfl))
         .rw[<-yW y ai]
          exact bc (ag (I:y<nl))
         .have:=(kt aK).2.2.1;simp at this
         .have:=(lW yU).2.2.1;simp at this
       .have y6:decide (1<=d4/\d4<=1)=false:=decide_eq_false p5
        refine aL (aN wE.eq_1 lm) (cc l7 H1 n0 y6) ?_
        apply aF
        refine a6 i25.eq_1 ?_
        intro _
        exact .all (ah _ _ _ I pt (fun h=>by simp at h) (fun⟨i_,nm⟩ dQ=>by
         rcases dQ with aK|aK
         .have q:=i_ aK
          have r:=kt aK
          first|(exfalso;omega)|(exfalso;simp at r;done)
         .have q:=nm aK
          have r:=lW aK
          first|(exfalso;omega)|(exfalso;simp at r;done)))
      |false=>
       by_cases p5:d4=0
       .have g0:(d4 != 0)=false:=by simp[p5]
        refine aL (eW wF.eq_1 z2.eq_1 u4.eq_1 wE.eq_1 lm) (gq l7 H1 n0 vP bP g0 @lK) ?_
        apply aF
        refine a6 i25.eq_1 ?_
        intro _
        refine .all (ah _ _ _ I pt (fun h=>⟨fun aK=>?_,fun yU=>?_⟩) (fun _ _=>rfl))
        .have cp:=kt aK
         simp at cp
        .have cp:=lW yU
         exact⟨lB,I,uB,p5⟩
       .have g0:(d4 != 0)=true:=by simp[p5]
        refine aL (eW wF.eq_1 z2.eq_1 u4.eq_1 wE.eq_1 lm) (gq l7 H1 n0 vP bP g0 @lK) ?_
        apply aF
        refine a6 i25.eq_1 ?_
        intro _
        exact .all (ah _ _ _ I pt (fun h=>by simp at h) (fun⟨i_,nm⟩ dQ=>by
         rcases dQ with aK|aK
         .have q:=i_ aK
          have r:=kt aK
          first|(exfalso;omega)|(exfalso;simp at r;done)
         .have q:=nm aK
          have r:=lW aK
          first|(exfalso;omega)|(exfalso;simp at r;done)))
     .have bP:(d3 != 0)=true:=by simp[uB]
      refine aL (cc wF.eq_1 z2.eq_1 u4.eq_1 lm) (eW l7 H1 n0 vP bP) ?_
      apply aF
      refine a6 i25.eq_1 ?_
      intro _
      exact .all (ah _ _ _ I pt (fun h=>by simp at h) (fun⟨i_,nm⟩ dQ=>by
       rcases dQ with aK|aK
       .have q:=i_ aK
        have r:=kt aK
        first|(exfalso;omega)|(exfalso;simp at r;done)
       .have q:=nm aK
        have r:=lW aK
        first|(exfalso;omega)|(exfalso;simp at r;done)))
   .have vP:decide (1<=d2/\d2<=m)=false:=decide_eq_false qQ
    refine aL (aN wF.eq_1 lm) (cc l7 H1 n0 vP) ?_
    apply aF
    refine a6 i25.eq_1 ?_
    intro _
    exact .all (ah _ _ _ I pt (fun h=>by simp at h) (fun⟨i_,nm⟩ dQ=>by
     rcases dQ with aK|aK
     .have q:=i_ aK
      have r:=kt aK
      first|(exfalso;omega)|(exfalso;simp at r;done)
     .have q:=nm aK
      have r:=lW aK
      first|(exfalso;omega)|(exfalso;simp at r;done)))
  .have jZ:decide (1<=d1/\d1<=64)=false:=decide_eq_false lB
   refine aL (cw HI.eq_1 wF.eq_1 lm) (cc l7 H1 n0 jZ) ?_
   apply aF
   refine a6 i25.eq_1 ?_
   intro _
   exact .all (ah _ _ _ I pt (fun h=>by simp at h) (fun⟨i_,nm⟩ dQ=>by
    rcases dQ with aK|aK
    .have q:=i_ aK
     have r:=kt aK
     first|(exfalso;omega)|(exfalso;simp at r;done)
    .have q:=nm aK
     have r:=lW aK
     first|(exfalso;omega)|(exfalso;simp at r;done)))
end
