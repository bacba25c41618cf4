/- Part of the proof of BatchOnce, for every input. -/
import Derived.Test.YtobokeclhlbnmaaGreatB22
set_option linter.all false
namespace Go.Proofs.Run
open Go Go.Abs
section
theorem asU(an lb ar dS k b:Nat):((f' an lb ar dS).make k b).ws 1=some (List.replicate k 0):=by
 have:(1:Int)=(f' an lb ar dS).m.made+1:=rfl
 rw[E8 (fun r ak=>by simp[f']at ak),if_pos this]
theorem R4(an lb ar dS k b:Nat):h5 ((f' an lb ar dS).make k b):=by
 have h:h5 (f' an lb ar dS):=⟨fun r ak=>by simp[f']at ak,by simp[f'],rfl,by simp[f'],fun w hw=>by simp[f']at hw,fun w hw=>by simp[f']at hw,fun w hw=>by simp[f']at hw,by simp[f']⟩
 exact h.make k b
theorem Q4{B:Nat}{E:Int}{a_:Int->List dP}{cY bM:Int->Int}{cN:Nat->jb}(mJ:0<=E)(gf:∀k,a_ k=[])(zn:∀k:Int,cY k=0)(fU:∀k:Int,bM k=0)(rE:∀j,cN j=⟨.none,0,0,[],false⟩):hS B E a_ cY bM 0 0 cN [] 0 0:=by
 refine⟨fun k _ _=>?_,fun j _=>by rw[rE];trivial,?_,fun j _=>by rw[rE];exact⟨Int.le_refl _,by show(0:Int)<=1;omega⟩,mJ,fun _=>0,fun _=>[],BX _,fun k _ _=>⟨Int.le_refl _,fun _=>by rw[gf];exact⟨rfl,rfl⟩,fun j _ h=>?_⟩,fun v=>?_,fun v h=>?_⟩
 .rw[zn,fU]
  have:(fun j=>(cN j).cd)=fun _=>.none:=by funext j;rw[rE]
  rw[this]
  exact⟨kU.init k,Int.le_refl _⟩
 .simp only[jR,rE];rfl
 .rw[rE]at h;cases h
 .simp only[mu,vu,BX,jR,rE];decide
 .simp only[mu,vu,BX,jR,rE]at h;exact absurd h (by decide)
theorem ev.rQ{aP:Nat}{d1 d3:Int}(mJ:1<=d1/\d1<=64)(cy:1<=d3/\d3<1000)(an lb ar dS b:Nat):
 ev ⟨aP,d1,d3,1⟩ an ar [] ((f' an lb ar dS).make (2+3*d3).toNat b) ⟨fun _=>[],ez (fun _=>.none) 1 .root,fun _=>0,fun _=>0,0,0,List.replicate (2+3*d3).toNat 0⟩ (fun _=>.none) (fun _=>[]) [] 0 0 (fun _=>0):=by
 have aw:∀{i:Nat},(i:Int)<2+3*d3->(List.replicate (2+3*d3).toNat (0:Int))[i]? =Option.some 0:=fun{i} aC=>by rw[List.getElem?_replicate,if_pos I]
 refine⟨⟨R4 _ _ _ _ _ _,cy,by simp[f',aE.make,ck.mk'],asU _ _ _ _ _ _,⟨aM,aw (i:=0) I,⟨0,aw (i:=1) I,by decide,by decide⟩,fun k a5 J=>aw ?_,fun k a5 J=>aw ?_,fun k a5 J=>aw ?_⟩,fun k=>trivial,fun k=>aM,(by show ez (fun _=>vp.none) 1 vp.root 1=vp.root;exact h' _ _ _),fun k e he=>by simp at he,fun w hw=>by simp[f',aE.make]at hw,fun h au=>?_,fun k _=>rfl⟩,Q4 (by show 0<=d1;omega) (fun _=>rfl) (fun _=>rfl) (fun _=>rfl) (fun _=>rfl),fun j _=>rfl,by simp[f',aE.make,ck.mk',jR,fi],I,Int.le_refl _,⟨rfl,rfl⟩,⟨rfl,rfl⟩,fun j _ l=>aM,mJ⟩
 .simp only[]at a5 J |-;unfold bW;omega
 .simp only[]at a5 J |-;unfold bW;omega
 .simp only[]at a5 J |-;unfold bW;omega
 .by_cases e:h=1
  .subst e;simp[f',aE.make,ck.mk']
  .simp only[dT _ _ e]at au;exact absurd rfl au
theorem fe.rQ{aP:Nat}{d1:Int}(mJ:1<=d1/\d1<=64)(an lb ar dS b:Nat):
 fe ⟨aP,d1,1⟩ an ar [] ((f' an lb ar dS).make 4 b) ⟨[],[],ez (fun _=>.none) 1 .root,0,0,0⟩ (fun _=>.none) (fun _=>[]) [] 0 0 (fun _=>0):=by
 refine⟨⟨R4 _ _ _ _ _ _,by simp[f',aE.make,ck.mk'],asU _ _ _ _ _ _,trivial,aM,(by show ez (fun _=>vp.none) 1 vp.root 1=vp.root;exact h' _ _ _),fun e he=>by simp at he,fun w hw=>by simp[f',aE.make]at hw,fun h au=>?_⟩,List.Perm.refl _,Q4 (by show 0<=d1;omega) (fun k=>?_) (fun k=>?_) (fun k=>?_) (fun _=>rfl),fun j _=>rfl,by simp[f',aE.make,ck.mk',jR,iN],I,Int.le_refl _,⟨rfl,rfl⟩,⟨rfl,rfl⟩,fun j _ l=>aM,mJ⟩
 .by_cases e:h=1
  .subst e;simp[f',aE.make,ck.mk']
  .simp only[dT _ _ e]at au;exact absurd rfl au
 .by_cases e:k=0
  .subst e;exact nM _ _
  .exact dT _ _ e
 .by_cases e:k=0
  .subst e;exact nM _ _
  .exact dT _ _ e
 .by_cases e:k=0
  .subst e;exact nM _ _
  .exact dT _ _ e
section
variable{κ:fw}
theorem hp.rQ{K:kj κ}{a:aE}{z:K.Z}(h:K.fo [] a z (fun _=>.none) (fun _=>[]) [] 0 0 (fun _=>0)):hp K [] a (fun _=>.off) [] 0 0 0 z:=
 ⟨⟨0,fun _=>0,Int.le_refl _,h,rfl⟩,fun j b _ e=>(by cases e),fun j _=>⟨fun _ b=>aM,fun _ l=>aM⟩,fun x=>⟨fun h=>by simp at h,fun⟨j,_,_,h⟩=>absurd rfl h⟩⟩
end
end
end Go.Proofs.Run
namespace Go.Proofs.Run
open Go Go.Abs
attribute [local irreducible] b9 cI cr cg aR
set_option maxRecDepth 100000
set_option maxHeartbeats 4000000
section
variable{κ:fw}{W:kj κ}{x:hE κ}{kind:Int}{g:G}{n:Nat}{a:aE}{K:cj aE}
theorem JE{ar:Nat}{y:Int}(e:a.ar=ar)(qd:0<=y)(nh:y<a.hq)(aj:y∉a.inside)(ah:∀n',n<=n'->K (.bool true) g n' (a.enter y)):aR ct bA 11 [.ptr ar 0,.int .i64 y] g n a K:=by
 subst e;exact axd qd nh aj ah
theorem DY{ar:Nat}{y:Int}(e:a.ar=ar)(aj:y∈a.inside)(ah:∀n' v bC,n<=n'->K v g n' ((a.out y).cX bC)):aR ct bA 16 [.ptr ar 0,.int .i64 y] g n a K:=by
 subst e;exact aDj aj ah
theorem au9{d1 d3:Int}{aX:List Int}{aS dc:Int}{M:Nat}{z:W.Z}{s:Nat->dM κ}(dQ:kind=4\/kind=5)(aH:(0<=d1/\d1<=64)/\(0<=d3/\d3<=32))(cC:ey κ.dv g)(ap:bm g n)(h:hp W [] a s aX aS dc M z)(uI:∀j,j<5->s j= .off)(v7:dc<500000000)
 (vD:((5*(W.D+(κ.e8.toNat*(W.D+2)+1)):Nat):Int)<=4*(500+1)*(10*d1+10*d3+70))
 (ah:∀g' n' a' kv oR e vs no xb AM z' nb' fE iO,n<=n'->(∀y,y<n->g' y=g y)->(kv.cell=true/\kv.cells=[kv]/\kv.known=true/\V.same 40 kv kv=true)->(∃hM,iG g' oR (words vs) hM/\∀y∈hM,n<=y)->vs.length<=2000->hp W [] a' iO (aX++vs) aS nb' fE z'->K (.bN [.agg [.int .i64 no,.int .i64 0,.int .u64 0,.int .i64 0,.br,.int .u64 0,.int .i64 0,kv,oR,.int .i64 xb,.int .u64 e],.int .i64 AM]) g' n' a'):
 aR ct bA 17 [.agg [.ptr κ.an 0,.ptr κ.ar 0,.ptr x.X 0,.int .i64 kind,.int .i64 d1,.int .i64 1,.int .i64 d3,.int .i64 0],.agg [.int .i64 4,.int .i64 0,.int .i64 0,.int .i64 64,.int .i64 0,.int .u64 0,.br,.int .i64 1,.int .i64 0,.br,.br,.br]] g n a K:=by
 refine bE i17 fun N aF=>?_
 refine dl ru ?_
 obtain⟨⟨em,pV⟩,yX,⟨sj,pU⟩,_⟩:=h.facts
 refine JE pV I (by rw[pU];omega) (by rw[sj];simp) fun bq g4=>?_
 intro dE
 obtain⟨Ap,J⟩:=h.QC (k:=0) I (uI 0 I)
 refine dl ru ?_
 refine dO fun dC=>PG (x:=x) dC fun ba aT aO fl h8 fQ=>?_
 intro gB
 refine dl (aN adG.eq_1 ru) ?_
 have cB:=h8.az
 have mC:∀q∈κ.dv,q.1<n:=fun q av=>ap _ _ (cC q av)
 have B0:ba n=some (.al false [.ptr κ.an 0,.ptr κ.ar 0,.ptr x.X 0,.int .i64 kind,.int .i64 d1,.int .i64 1,.int .i64 d3,.int .i64 0]):=by rw[h8.aw n I aM];exact dX
 have ub:ba (n+2)=some (.al false [.int .i64 0,.int .i64 0,.int .u64 0,.int .i64 0,.br,.int .u64 0,.int .i64 0,.br,.br,.int .i64 0,.int .u64 0]):=by rw[h8.aw (n+2) I aM];exact dX
 have atb:∀y,y<n->ba y=g y:=fun y ai=>by rw[h8.aw y I aM];exact bc (ag (I:y<n))
 refine qp (fun eX t fH cq fF=>∃(b:bS κ) (fl:List Nat) (z:W.Z) (nb':Int) (i:Nat) (iO:Nat->dM κ) (e:Int),hp W [0] fF iO aX aS nb' eX z/\iO 0= .bK b/\(∀j,0<j->j<5->iO j= .off)/\b.cJ=false/\i+eX<=Ap/\nb'<=dc+2*i/\nz x kind fH fl aO b/\(∀y∈fl,n+3<=y/\y<cq)/\n+3<=cq/\fH n=ba n/\fH (n+2)=ba (n+2)/\(∀y,y<n->fH y=g y)/\aW t (.t 2)= .ptr n 0/\aW t (.t 4)= .ptr (n+2) 0/\aW t (.t 6)= .ptr aO 0/\aW t (.t 7)= .int .i64 e/\aW t (.t 8)= .int .i64 i) Ap ⟨bS.rQ,fl,z,dc,0,_,0,J,ek _ _ _,fun j a5 bx=>by rw[gL _ _ I];exact uI j bx,rfl,I,I,fQ,fun y ai=>⟨?_,h8.lt y ai⟩,I,rfl,rfl,atb,dW,dW,dW,dW,bD @Int.natCast_zero⟩ ?_
 .have:=h8.sub y ai
  simp at this;omega
 have aKB:=J.ix
 clear dE dC gB
 rintro eX t fH cq fF ⟨b,aKo,t_,Tw,i,iq,e,J2,Gz,wg,di,aKO,aKY,bG,cE,iJ,b0,b2,Cx,aJ,g0,m5,dB,dN⟩
 rw[B0]at b0
 rw[ub]at b2
 refine aL ru (gq aJ g0 m5 dB dN b0 b2) ?_
 refine aeP (db:=cq) (ro:=false) (kind:=kind) (d2:=1) (d4:=0) aH.1 aH.2 I (dX) fun ik v0=>?_
 intro jN
 obtain⟨⟨axc,axb⟩,aKy,⟨aKj,aKh⟩,_⟩:=J2.facts
 have c1:((i:Int)<=4*(500+1)*(10*d1+10*d3+70))=True:=eq_true I
 refine aL (aN adH.eq_1 ru) (d' c1 aJ g0 m5 dB dN) ?_
 have sr:∀y,y<cq->(a1 fH cq (bt.al false [V.int IntKind.i64 kind,V.int IntKind.i64 d1,V.int IntKind.i64 1,V.int IntKind.i64 d3,V.int IntKind.i64 0])) y=fH y:=fun y ai=>bc (ag (I:y<cq))
 have AW:ey κ.dv fH:=fun q av=>by rw[Cx _ (mC q av)];exact cC q av
 have Ga:ey κ.dv (a1 fH cq (bt.al false [V.int IntKind.i64 kind,V.int IntKind.i64 d1,V.int IntKind.i64 1,V.int IntKind.i64 d3,V.int IntKind.i64 0])):=fun q av=>by rw[sr _ (by have:=mC q av;omega)];exact AW q av
 have cH:¬jv W t_ (iq 0):=by
  obtain⟨j,ax,J,U⟩:=J2.mover ⟨0,I,by rw[Gz];simp⟩
  have:j=0:=Classical.byContradiction fun bp=>J (wg j I ax)
  subst this;exact U
 refine PK dQ Ga ⟨axc,axb⟩ jN (fun y ai=>by have:=cE y ai;omega) (fun q av hm=>by have:=mC q av;have:=cE _ hm;omega) (bG.b6 AW Ga fun y ai=>sr y (cE y ai).2) di (J2.stepT (k:=0) I I Gz di) fun mz h7 ko dD AN bO lD rL=>?_
 obtain⟨Aq,kz,k2,_,rH⟩:=bO
 have rH:=rH cH
 have v3:=lD.az
 intro p_
 have Ag:∀y,y<n+3->ko y=fH y:=fun y ai=>by
  rw[lD.aw y I fun hm=>by have:=cE y hm;omega]
  exact sr y I
 have AZ:∀y∈AN,n+3<=y/\y<dD:=fun y ai=>by
  refine⟨?_,lD.lt y ai⟩
  rcases lD.sub y ai with h|h
  .exact(cE y h).1
  .omega
 have FM:=(Ag n I).trans b0
 have FN:=(Ag (n+2) I).trans b2
 have B5:IntKind.wrap .i64 ((i:Int)+1)=((i+1:Nat):Int):=by rw[wrap_i64 I I];omega
 have aKL:ey κ.dv ko:=fun q av=>by rw[Ag _ (by have:=mC q av;omega)];exact AW q av
 obtain⟨xk,JD⟩:=k2.facts.2.2.1
 have xj:=k2.facts.1.2
 cases he:h7.bH with
 |false=>
  cases lC:h7.cJ with
  |false=>
   refine aL (aN Ep.eq_1 ru) (e_ he lC aJ g0 m5 dB dN B5) ?_
   refine⟨Aq,rH,h7,AN,kz,Tw+2,i+1,_,_,k2,ek _ _ _,fun j a5 bx=>by rw[gL _ _ I];exact wg j a5 bx,lC,I,I,rL,AZ,I,by rw[FM,B0],by rw[FN,ub],fun y ai=>by rw[Ag y I];exact Cx y ai,rfl,rfl⟩
  |true=>
   refine aL (aN Ep.eq_1 ru) (jO he lC aJ g0 m5 dB dN B5 FM) ?_
   refine DY xj (by rw[xk];simp) fun kh v6 Ms DD=>?_
   intro xE
   obtain⟨vo,p2,_⟩:=k2.leave (k:=0) I (.inl ⟨h7,ek _ _ _,lC⟩) aM Ms
   have qM:=k2.done (k:=0) I (ek _ _ _) lC
   refine aL ru (eW aJ g0 m5 dB dN) ?_
   refine dO fun A6=>I_ A6 (fun y ai=>by have:=AZ y ai;omega) rL I fun yR qk kv oR vy kf hM KS qR p9 mh zs=>?_
   intro zb
   have I':=(qR (n+2) I).trans FN
   obtain⟨iM,jj,uO,uP,Bp,zA⟩:=p9.g6
   obtain⟨v1,v2,fm,v4,B2,aIO⟩:=mh.g6
   refine aL (aN Mu.eq_1 ru) (bs aJ g0 m5 dB dN I' iM jj uO uP v1 (cw v2 fm v4)) ?_
   apply aF
   generalize av:qo _ _ _=q
   refine aMK (oH i17.eq_1 g0) av fun h=>?_
   subst h
   intro _
   rw[ek]at p2
   refine .all (ah _ _ _ kv oR _ h7.gU _ _ _ kz _ vo _ I (fun y ai=>?_) ⟨iM,jj,uO,uP⟩ ⟨hM,mh.b6 fun y ai=>?_,fun y ai=>by have:=zs y ai;omega⟩ qM.2.2 p2)
   .have aD:(n+2=y)=False:=eq_false I
    rw[<-Cx y ai,<-Ag y I,<-qR y I]
    exact bc aD
   .have aD:(n+2=y)=False:=eq_false (by have:=zs y ai;omega)
    exact bc aD
 |true=>
  cases lC:h7.cJ with
  |false=>
   refine aL (aN Ep.eq_1 ru) (e_ he lC aJ g0 m5 dB dN B5) ?_
   refine⟨Aq,rH,h7,AN,kz,Tw+2,i+1,_,_,k2,ek _ _ _,fun j a5 bx=>by rw[gL _ _ I];exact wg j a5 bx,lC,I,I,rL,AZ,I,by rw[FM,B0],by rw[FN,ub],fun y ai=>by rw[Ag y I];exact Cx y ai,rfl,rfl⟩
  |true=>
   refine aL (aN Ep.eq_1 ru) (jO he lC aJ g0 m5 dB dN B5 FM) ?_
   refine DY xj (by rw[xk];simp) fun kh v6 Ms DD=>?_
   intro xE
   obtain⟨vo,p2,_⟩:=k2.leave (k:=0) I (.inl ⟨h7,ek _ _ _,lC⟩) aM Ms
   have qM:=k2.done (k:=0) I (ek _ _ _) lC
   refine aL ru (eW aJ g0 m5 dB dN) ?_
   refine dO fun A6=>I_ A6 (fun y ai=>by have:=AZ y ai;omega) rL I fun yR qk kv oR vy kf hM KS qR p9 mh zs=>?_
   intro zb
   have I':=(qR (n+2) I).trans FN
   obtain⟨iM,jj,uO,uP,Bp,zA⟩:=p9.g6
   obtain⟨v1,v2,fm,v4,B2,aIO⟩:=mh.g6
   refine aL (aN Mu.eq_1 ru) (bs aJ g0 m5 dB dN I' iM jj uO uP v1 (cw v2 fm v4)) ?_
   apply aF
   generalize av:qo _ _ _=q
   refine aMK (oH i17.eq_1 g0) av fun h=>?_
   subst h
   intro _
   rw[ek]at p2
   refine .all (ah _ _ _ kv oR _ h7.gU _ _ _ kz _ vo _ I (fun y ai=>?_) ⟨iM,jj,uO,uP⟩ ⟨hM,mh.b6 fun y ai=>?_,fun y ai=>by have:=zs y ai;omega⟩ qM.2.2 p2)
   .have aD:(n+2=y)=False:=eq_false I
    rw[<-Cx y ai,<-Ag y I,<-qR y I]
    exact bc aD
   .have aD:(n+2=y)=False:=eq_false (by have:=zs y ai;omega)
    exact bc aD
end
section
section
variable{κ:fw}
structure sZ(x:hE κ)(kind d1 d3:Int)(A0 ed B0 bR:Nat)(e5:G):Prop where
 dQ:kind=4\/kind=5
 aH:(0<=d1/\d1<=64)/\(0<=d3/\d3<=32)
 al:ey κ.dv e5
 lt:∀q∈κ.dv,q.1<bR/\q.1≠A0
 S:e5 ed=some (.al false [.ptr κ.an 0,.ptr κ.ar 0,.ptr x.X 0,.int .i64 kind,.int .i64 d1,.int .i64 1,.int .i64 d3,.int .i64 0])
 B:e5 B0=some (.al false [.int .i64 kind,.int .i64 d1,.int .i64 1,.int .i64 d3,.int .i64 0])
 nq:(ed<bR/\ed≠A0)/\(B0<bR/\B0≠A0)/\A0<bR
def Ca(x:hE κ)(kind:Int)(g:G)(m:hO)(fl:List Nat):dM κ->Prop
 | .off=>m.on=false/\fl=[]
 | .bK b=>m.on=true/\b.cJ=false/\∃aO,m.bK= .ptr aO 0/\nz x kind g fl aO b
 | .dz l=>m.on=true/\∃lb,m.dz= .ptr lb 0/\Cf κ g fl lb l
 | .kZ=>False
theorem Cf.b6{g g':G}{fl:List Nat}{lb:Nat}{l:κ.L}(h:Cf κ g fl lb l)(c1:ey κ.dv g)(c2:ey κ.dv g')(aw:∀y∈fl,g' y=g y):Cf κ g' fl lb l:=by
 obtain⟨y,cU,J,U,rfl,aK⟩:=h
 exact⟨y,cU,by rw[aw lb aM];exact J,κ.G2 U c1 c2 fun b ad=>aw b (by simp[ad]),rfl,aK⟩
theorem Ca.b6{x:hE κ}{kind:Int}{g g':G}{m:hO}{fl:List Nat}{s:dM κ}(h:Ca x kind g m fl s)(c1:ey κ.dv g)(c2:ey κ.dv g')(aw:∀y∈fl,g' y=g y):Ca x kind g' m fl s:=by
 cases s with
 |off=>exact h
 |bK b=>obtain⟨J,U,aO,aq,aK⟩:=h;exact⟨J,U,aO,aq,aK.b6 c1 c2 aw⟩
 |dz l=>obtain⟨J,lb,aq,aK⟩:=h;exact⟨J,lb,aq,aK.b6 c1 c2 aw⟩
 |kZ=>exact h
structure kk(W:kj κ)(x:hE κ)(kind:Int)(A0 bR:Nat)(e5 g:G)(n:Nat)(a8:List Int)(a:aE)(m:Nat->hO)(hd:Nat->List Nat)(hH:List Nat)(gi:V)(s:Nat->dM κ)(aX:List Int)(aS dc:Int)(M:Nat)(z:W.Z):Prop where
 jk:hp W a8 a s aX aS dc M z
 de:a8.Nodup
 dF:bR<=n
 lt:bm g n
 iY:g A0=some (.al false (gV m))
 q6:∀k,k<5->Ca x kind g (m k) (hd k) (s k)
 eI:∀k,k<5->∀y∈hd k,bR<=y/\y<n
 AL:∀i j,i<5->j<5->i≠j->∀y∈hd i,y∉hd j
 z7:h6 g 1 gi aX.length (words aX) hH
 iu:∀y∈hH,(bR<=y/\y<n)/\∀k,k<5->y∉hd k
 mq:∀y,y<bR->y≠A0->g y=e5 y
variable{W:kj κ}{x:hE κ}{kind d1 d3:Int}{A0 ed B0 bR:Nat}{e5 g:G}{n:Nat}{a8:List Int}{a:aE}{m:Nat->hO}{hd:Nat->List Nat}{hH:List Nat}{gi:V}{s:Nat->dM κ}{aX:List Int}{aS dc:Int}{M:Nat}{z:W.Z}{k:Nat}
theorem sZ.uu(F:sZ x kind d1 d3 A0 ed B0 bR e5){g:G}(mq:∀y,y<bR->y≠A0->g y=e5 y):ey κ.dv g:=fun q av=>by
 have:=F.lt q av
 rw[mq _ this.1 this.2];exact F.al q av
theorem hp.mono{K:kj κ}{z:K.Z}{dc nb':Int}(h:hp K a8 a s aX aS dc M z)(az:dc<=nb'):hp K a8 a s aX aS nb' M z:=by
 obtain⟨⟨N,r,J,U,aq⟩,aK,bx,cp⟩:=h
 exact⟨⟨N,r,I,U,aq⟩,aK,bx,cp⟩
theorem kk.gen(h:kk W x kind A0 bR e5 g n a8 a m hd hH gi s aX aS dc M z)(F:sZ x kind d1 d3 A0 ed B0 bR e5)(ah:k<5){g':G}{n':Nat}{hW:Nat->hO}{fl' oP:List Nat}{ns:V}{js:List Int}{a':aE}{lg:dM κ}{td':List Int}{la' nb':Int}{fE:Nat}{z':W.Z}
 (az:n<=n') (dm:bm g' n') (aw:∀y,y<n->y∉hd k->y∉hH->y≠A0->g' y=g y) (ayw:g' A0=some (.al false (gV hW))) (hm:∀j,j≠k->hW j=m j) (aCP:hp W js a' (bT s k lg) td' la' nb' fE z') (gO:js.Nodup) (aFW:Ca x kind g' (hW k) fl' lg)
 (cE:∀y∈fl',y<n'/\(y∈hd k\/n<=y)) (aIo:h6 g' 1 ns td'.length (words td') oP) (asA:∀y∈oP,y<n'/\(y∈hH\/n<=y)/\y∉fl'):
 kk W x kind A0 bR e5 g' n' js a' hW (bT hd k fl') oP ns (bT s k lg) td' la' nb' fE z':=by
 have nc:=h.dF
 have yV:=F.nq.2.2
 have TU:∀y,y<bR->y≠A0->g' y=e5 y:=fun y J U=>by
  rw[aw y I (fun hm=>by have:=h.eI k ah y hm;omega) (fun hm=>by have:=(h.iu y hm).1;omega) U];exact h.mq y J U
 refine⟨aCP,gO,I,dm,ayw,fun j ax=>?_,fun j ax y ai=>?_,fun i j aC ax fq y ai=>?_,aIo,fun y ai=>⟨?_,fun j ax=>?_⟩,TU⟩
 .by_cases e:j=k
  .subst e;rw[ek,ek];exact aFW
  .rw[gL _ _ e,gL _ _ e,hm j e]
   refine(h.q6 j ax).b6 (F.uu h.mq) (F.uu TU) fun y ai=>?_
   have:=h.eI j ax y ai
   exact aw y this.2 (h.AL j k ax ah e y ai) (fun hm=>(h.iu y hm).2 j ax ai) I
 .by_cases e:j=k
  .subst e;rw[ek]at ai
   obtain⟨J,U⟩:=cE y ai
   refine⟨?_,J⟩
   rcases U with U|U
   .exact(h.eI j ax y U).1
   .omega
  .rw[gL _ _ e]at ai;have:=h.eI j ax y ai;omega
 .by_cases sj:i=k
  .subst sj
   rw[ek]at ai
   rw[gL _ _ (fun e=>fq e.symm)]
   intro hm
   rcases(cE y ai).2 with aq|aq
   .exact h.AL i j aC ax fq y aq hm
   .have:=h.eI j ax y hm;omega
  .rw[gL _ _ sj]at ai
   have Lm:=h.eI i aC y ai
   by_cases sk:j=k
   .subst sk;rw[ek];intro hm
    rcases(cE y hm).2 with aq|aq
    .exact h.AL i j aC ax fq y ai aq
    .omega
   .rw[gL _ _ sk];exact h.AL i j aC ax fq y ai
 .obtain⟨J,U,_⟩:=asA y ai
  refine⟨?_,J⟩
  rcases U with U|U
  .exact(h.iu y U).1.1
  .omega
 .obtain⟨J,U,aq⟩:=asA y ai
  by_cases e:j=k
  .subst e;rw[ek];exact aq
  .rw[gL _ _ e]
   rcases U with U|U
   .exact(h.iu y U).2 j ax
   .intro hm;have:=h.eI j ax y hm;omega
end
structure n2(t:T V)(kv pv:V)(B0 A0 ed:Nat)(gi:V)(aS most i:Int):Prop where
 aD:aW t (.t 1)=kv
 aJ:aW t (.t 2)=pv
 bP:aW t (.t 3)= .ptr B0 0
 dB:aW t (.t 7)= .slice A0 0 5 5 4
 dN:aW t (.t 8)= .ptr ed 0
 e4:aW t (.t 10)=gi
 ef:aW t (.t 11)= .int .u64 aS
 fR:aW t (.t 12)= .int .i64 most
 fS:aW t (.t 13)= .int .i64 i
def Ar{κ:fw}(W:kj κ)(s iO:Nat->dM κ)(k:Nat)(z z':W.Z)(M fE:Nat):Prop:=
 (jv W z (s k)->fE=M/\∀j,j<5->(iO j≠ .off↔s j≠ .off)/\(jv W z' (iO j)↔jv W z (s j)))/\(¬jv W z (s k)->fE<M)
theorem aJe{g:G}{n:Nat}{a:aE}{K:cj aE}{ar:Nat}(e:a.ar=ar)(ah:∀n',n<=n'->K (.int .i64 a.queue.length) g n' a):aR ct bA 19 [.ptr ar 0] g n a K:=by
 subst e;exact aJd ah
theorem avy{g:G}{n:Nat}{a:aE}{K:cj aE}{an:Nat}(e:a.an=an)(ah:∀n',n<=n'->K (.int .i64 a.m.ry) g n' a):aR ct bA 20 [.ptr an 0] g n a K:=by
 subst e;exact avx ah
end
section
variable{κ:fw}{W:kj κ}{x:hE κ}{kind d1 d3:Int}{A0 ed B0 bR:Nat}{e5 g:G}{n:Nat}{a8:List Int}{a:aE}{m:Nat->hO}{hd:Nat->List Nat}{hH:List Nat}{gi:V}{s:Nat->dM κ}{aX:List Int}{aS dc:Int}{M:Nat}{z:W.Z}{k:Nat}
theorem Tu{lg:dM κ}{z':W.Z}{fE:Nat}(lG:s k≠ .off)(aj:lg≠ .off)(J:jv W z (s k)->z'=z/\jv W z lg/\fE=M)(U:¬jv W z (s k)->fE<M):Ar W s (bT s k lg) k z z' M fE:=by
 refine⟨fun hw=>?_,U⟩
 obtain⟨rfl,cO,fc⟩:=J hw
 refine⟨fc,fun j _=>?_⟩
 by_cases e:j=k
 .subst e;rw[ek];exact⟨⟨fun _=>lG,fun _=>aj⟩,⟨fun _=>hw,fun _=>cO⟩⟩
 .rw[gL _ _ e];exact⟨Iff.rfl,Iff.rfl⟩
theorem LV{iO:Nat->dM κ}{z':W.Z}{fE:Nat}(cH:¬jv W z (s k))(U:fE<M):Ar W s iO k z z' M fE:=⟨fun h=>absurd h cH,fun _=>U⟩
theorem iG.Nm{g:G}{v:V}{ks:List V}{fl:List Nat}(h:iG g v ks fl):h6 g 1 v ks.length ks fl:=by
 rcases h with⟨rfl,rfl,rfl⟩|⟨b,rfl,U,rfl,aK⟩
 .exact .nil
 .exact .whole aK I
theorem Uf{b:bS κ}(h:b.ok)(aH:b.cJ=true):b.part= .none:=by
 obtain⟨_,_,_,_,eO⟩:=h
 unfold bS.part
 cases aB:b.hG<;>simp only[aB]at eO |- <;>(simp only[aH]at eO;simp at eO)
theorem Tq{kv pv:V}{most i:Int}{t:T V}{E:Nat->fp (Option aE)}{R N:fp (Option aE)}(F:sZ x kind d1 d3 A0 ed B0 bR e5)(h:kk W x kind A0 bR e5 g n a8 a m hd hH gi s aX aS dc M z)(ah:k<3){b:bS κ}(lH:s k= .bK b)(v7:dc<400000000)
 (T:n2 t kv pv B0 A0 ed gi aS most i) (kd:aW t (.t 14)= .int .i64 k) (l_:aW t (.t 15)= .ptr A0 (k*4))
 (aF:∀t' g' n' js a' hW oA oP ns iO td' fE z',n<=n'->kk W x kind A0 bR e5 g' n' js a' hW oA oP ns iO td' aS (dc+3) fE z'->Ar W s iO k z z' M fE->n2 t' kv pv B0 A0 ed ns aS most i->N t' g' n' (some a')):b9 lM bA BR N E R t g n (some a):=by
 obtain⟨aD,aJ,bP,dB,dN,e4,ef,fR,fS⟩:=T
 have bG:=h.q6 k I
 rw[lH]at bG
 obtain⟨lG,di,aO,nf,jf⟩:=bG
 have iY:=h.iY
 have jK:=Pk (m:=m) (i:=k) I
 rw[nf]at jK
 have hlen:=xa (m:=m)
 have eu:((k:Int)<3)=True:=eq_true I
 have cC:=F.uu h.mq
 have yV:=F.nq.2.2
 have nc:=h.dF
 obtain⟨⟨em,pV⟩,yX,⟨sj,pU⟩,_⟩:=h.jk.facts
 refine aL gd (bs aD aJ bP dB dN e4 ef fR fS kd l_ (cc eu iY jK hlen)) ?_
 refine dO fun ku=>qj (PK F.dQ cC ⟨em,pV⟩ ku (fun y ai=>(h.eI k I y ai).2) (fun q av hm=>by have:=F.lt q av;have:=h.eI k I _ hm;omega) jf di (h.jk.stepT (k:=k) I I lH di) fun mz h7 ko dD AN bO lD rL=>?_)
 obtain⟨Aq,kz,k2,xS,rH⟩:=bO
 intro p_
 have v3:=lD.az
 have vC:ko A0=some (.al false (gV m)):=by rw[lD.aw A0 I fun hm=>by have:=h.eI k I _ hm;omega];exact iY
 have AZ:∀y∈AN,y<dD/\(y∈hd k\/n<=y):=fun y ai=>⟨lD.lt y ai,lD.sub y ai⟩
 have jM:∀y,y<n->y∉hd k->ko y=g y:=fun y J U=>lD.aw y J U
 have Lc:∀y∈hH,ko y=g y:=fun y ai=>jM y (h.iu y ai).1.2 ((h.iu y ai).2 k I)
 have Bh:=h.z7.b6 Lc
 have aA8:∀y∈hH,y∉AN:=fun y ai hm=>by
  rcases lD.sub y hm with J|J
  .exact(h.iu y ai).2 k I J
  .have:=(h.iu y ai).1;omega
 cases lC:h7.cJ with
 |false=>
  refine aL (aN MO.eq_1 gd) (bs lC aD aJ bP dB dN e4 ef fR fS kd l_) ?_
  refine aF _ ko dD a8 mz m _ hH gi _ aX Aq kz I (h.gen F I I p_ (fun y J U _ _=>jM y J U) vC (fun _ _=>rfl) (k2.mono I) h.de ⟨lG,lC,aO,nf,rL⟩ AZ Bh fun y ai=>⟨by have:=(h.iu y ai).1;omega,.inl ai,aA8 y ai⟩) (Tu (by rw[lH];simp) aM xS rH) ⟨bD aD,bD aJ,bD bP,bD dB,bD dN,bD e4,bD ef,bD fR,bD fS⟩
 |true=>
  have qM:=k2.done (k:=k) I (ek _ _ _) lC
  refine aL (aN MO.eq_1 gd) (bs lC aD aJ bP dB dN e4 ef fR fS kd (cc l_ vC jK hlen)) ?_
  refine qj (I_ p_ (fun y ai=>lD.lt y ai) rL I fun yR qk GZ B4 vy kf hM KS qR p9 mh zs=>?_)
  intro zb
  obtain⟨iM,jj,uO,uP,Bp,zA⟩:=p9.g6
  obtain⟨v1,v2,fm,v4,B2,v6⟩:=mh.g6
  rw[iS]at zA v6
  rw[qM.2.1]at v6
  rcases qM.1 with dy|dy
  .rw[dy]
   refine aL (aN MP.eq_1 gd) (bs aD aJ bP dB dN e4 ef fR fS kd l_ (ji iM jj uO uP zA v1 v2 fm v4 v6)) ?_
   obtain⟨oY,n7⟩:∃G,G=a1 (a1 yR qk (bt.al false [V.int IntKind.i64 0,V.int IntKind.i64 0,V.int IntKind.u64 0,V.int IntKind.i64 0,V.br,V.int IntKind.u64 0,V.int IntKind.i64 0,V.br,V.br,V.int IntKind.i64 0,V.int IntKind.u64 0])) qk (bt.al false [V.int IntKind.i64 0,V.int IntKind.i64 0,V.int IntKind.u64 0,V.int IntKind.i64 0,V.br,V.int IntKind.u64 0,V.int IntKind.i64 0,GZ,B4,V.int IntKind.i64 h7.e3.length,V.int IntKind.u64 vy]):=⟨_,rfl⟩
   rw[<-n7]
   have n4:oY qk=some (.al false [V.int IntKind.i64 0,V.int IntKind.i64 0,V.int IntKind.u64 0,V.int IntKind.i64 0,V.br,V.int IntKind.u64 0,V.int IntKind.i64 0,GZ,B4,V.int IntKind.i64 h7.e3.length,V.int IntKind.u64 vy]):=by rw[n7];exact dX
   have n5:∀y,y<qk->oY y=yR y:=fun y ai=>by rw[n7];exact bc (ag (I:y<qk))
   have CQ:bm oY (qk+1):=by rw[n7];exact(zb.new (Nat.le_refl _) _).a1 I _
   clear n7
   have De:h6 oY 1 gi aX.length (words aX) hH:=Bh.b6 fun y ai=>by have:=(h.iu y ai).1;rw[n5 y I,qR y I]
   have Df:h6 oY 1 B4 (words h7.gU).length (words h7.gU) hM:=mh.Nm.b6 fun y ai=>n5 y (mh.lt zb y ai)
   obtain⟨E2,xq,LW,H9,Di,R3,to,vS,Bg,DA⟩:=De.append CQ (bytes:=8) Df.src I (E7 _) (by have:=h.jk.facts.2.2.2.2.2.1;rw[iS];omega) I
   have JX:xq A0=some (.al false (gV m)):=by rw[vS A0 I (fun hm=>by have:=(h.iu _ hm).1;omega),n5 A0 I,qR A0 I];exact vC
   have y0:xq ed=some (.al false [.ptr κ.an 0,.ptr κ.ar 0,.ptr x.X 0,.int .i64 kind,.int .i64 d1,.int .i64 1,.int .i64 d3,.int .i64 0]):=by
    have:=F.nq.1
    rw[vS ed I (fun hm=>by have:=(h.iu _ hm).1;omega),n5 ed I,qR ed I,jM ed I (fun hm=>by have:=h.eI k I _ hm;omega),h.mq ed this.1 this.2];exact F.S
   have uq:(A0=ed)=False:=eq_false fun e=>F.nq.1.2 e.symm
   have um:(k*4+4<=20)=True:=eq_true I
   refine aL gd (bs aD aJ bP dB dN e4 ef fR fS kd l_ (e_ n4 Di JX y0 uq um hlen (fun m=>@Cs m _ (I:k<5)))) ?_
   obtain⟨⟨Qy,xj⟩,_,⟨xk,JD⟩,_⟩:=k2.facts
   refine qj (DY xj (by rw[xk];exact(k2.mem I).2 (by rw[ek];simp)) fun D7 v10 En R1=>?_)
   intro Dx
   obtain⟨vo,p2,Rc⟩:=k2.leave (k:=k) I (.inl ⟨h7,ek _ _ _,lC⟩) h.de En
   rw[xo,ek]at p2
   have cH:¬jv W z (s k):=fun hw=>by
    have J:=(xS hw).2.1
    have U:=Uf (k2.ok k h7 I (ek _ _ _)) lC
    unfold jv at J
    simp only[dM.part,U]at J
    exact(W.yk (z:=z)).1 J
   have DL:words (aX++h7.gU)=words aX++words h7.gU:=by simp[words]
   refine aF _ _ D7 (a8.erase k) _ (fx m k {m k with on:=false}) (bT hd k []) H9 E2 _ (aX++h7.gU) vo kz I (h.gen F I I Dx (fun y J U aq aK=>?_) (by rw[bJ,if_pos rfl]) (fun j ax=>if_neg ax) (p2.mono I) (h.de.erase _) ⟨by simp[fx],rfl⟩ aM ?_ fun y ai=>⟨?_,?_,aM⟩) (LV cH (by have:=rH cH;omega)) ⟨bD aD,bD aJ,bD bP,bD dB,bD dN,bD e4,bD ef,bD fR,bD fS⟩
   .rw[bJ,if_neg (fun e=>aK e.symm),vS y I aq,n5 y I,qR y I,jM y J U]
   .rw[List.length_append,DL]
    rw[iS]at to
    exact to.b6 fun y ai=>by
     rw[bJ,if_neg]
     intro e
     rcases Bg y ai with J|J
     .have:=(h.iu y J).1;omega
     .omega
   .have:=to.lt DA y ai;omega
   .rcases Bg y ai with J|J
    .exact .inl J
    .exact .inr I
  .rw[dy]
   refine aL (aN MP.eq_1 gd) (bs aD aJ bP dB dN e4 ef fR fS kd l_ (ji iM jj uO uP zA v1 v2 fm v4 v6)) ?_
   obtain⟨oY,n7⟩:∃G,G=a1 (a1 yR qk (bt.al false [V.int IntKind.i64 0,V.int IntKind.i64 0,V.int IntKind.u64 0,V.int IntKind.i64 0,V.br,V.int IntKind.u64 0,V.int IntKind.i64 0,V.br,V.br,V.int IntKind.i64 0,V.int IntKind.u64 0])) qk (bt.al false [V.int IntKind.i64 2,V.int IntKind.i64 0,V.int IntKind.u64 0,V.int IntKind.i64 0,V.br,V.int IntKind.u64 0,V.int IntKind.i64 0,GZ,B4,V.int IntKind.i64 h7.e3.length,V.int IntKind.u64 vy]):=⟨_,rfl⟩
   rw[<-n7]
   have n4:oY qk=some (.al false [V.int IntKind.i64 2,V.int IntKind.i64 0,V.int IntKind.u64 0,V.int IntKind.i64 0,V.br,V.int IntKind.u64 0,V.int IntKind.i64 0,GZ,B4,V.int IntKind.i64 h7.e3.length,V.int IntKind.u64 vy]):=by rw[n7];exact dX
   have n5:∀y,y<qk->oY y=yR y:=fun y ai=>by rw[n7];exact bc (ag (I:y<qk))
   have CQ:bm oY (qk+1):=by rw[n7];exact(zb.new (Nat.le_refl _) _).a1 I _
   clear n7
   have De:h6 oY 1 gi aX.length (words aX) hH:=Bh.b6 fun y ai=>by have:=(h.iu y ai).1;rw[n5 y I,qR y I]
   have Df:h6 oY 1 B4 (words h7.gU).length (words h7.gU) hM:=mh.Nm.b6 fun y ai=>n5 y (mh.lt zb y ai)
   obtain⟨E2,xq,LW,H9,Di,R3,to,vS,Bg,DA⟩:=De.append CQ (bytes:=8) Df.src I (E7 _) (by have:=h.jk.facts.2.2.2.2.2.1;rw[iS];omega) I
   have JX:xq A0=some (.al false (gV m)):=by rw[vS A0 I (fun hm=>by have:=(h.iu _ hm).1;omega),n5 A0 I,qR A0 I];exact vC
   have y0:xq ed=some (.al false [.ptr κ.an 0,.ptr κ.ar 0,.ptr x.X 0,.int .i64 kind,.int .i64 d1,.int .i64 1,.int .i64 d3,.int .i64 0]):=by
    have:=F.nq.1
    rw[vS ed I (fun hm=>by have:=(h.iu _ hm).1;omega),n5 ed I,qR ed I,jM ed I (fun hm=>by have:=h.eI k I _ hm;omega),h.mq ed this.1 this.2];exact F.S
   have uq:(A0=ed)=False:=eq_false fun e=>F.nq.1.2 e.symm
   have um:(k*4+4<=20)=True:=eq_true I
   refine aL gd (bs aD aJ bP dB dN e4 ef fR fS kd l_ (e_ n4 Di JX y0 uq um hlen (fun m=>@Cs m _ (I:k<5)))) ?_
   obtain⟨⟨Qy,xj⟩,_,⟨xk,JD⟩,_⟩:=k2.facts
   refine qj (DY xj (by rw[xk];exact(k2.mem I).2 (by rw[ek];simp)) fun D7 v10 En R1=>?_)
   intro Dx
   obtain⟨vo,p2,Rc⟩:=k2.leave (k:=k) I (.inl ⟨h7,ek _ _ _,lC⟩) h.de En
   rw[xo,ek]at p2
   have cH:¬jv W z (s k):=fun hw=>by
    have J:=(xS hw).2.1
    have U:=Uf (k2.ok k h7 I (ek _ _ _)) lC
    unfold jv at J
    simp only[dM.part,U]at J
    exact(W.yk (z:=z)).1 J
   have DL:words (aX++h7.gU)=words aX++words h7.gU:=by simp[words]
   refine aF _ _ D7 (a8.erase k) _ (fx m k {m k with on:=false}) (bT hd k []) H9 E2 _ (aX++h7.gU) vo kz I (h.gen F I I Dx (fun y J U aq aK=>?_) (by rw[bJ,if_pos rfl]) (fun j ax=>if_neg ax) (p2.mono I) (h.de.erase _) ⟨by simp[fx],rfl⟩ aM ?_ fun y ai=>⟨?_,?_,aM⟩) (LV cH (by have:=rH cH;omega)) ⟨bD aD,bD aJ,bD bP,bD dB,bD dN,bD e4,bD ef,bD fR,bD fS⟩
   .rw[bJ,if_neg (fun e=>aK e.symm),vS y I aq,n5 y I,qR y I,jM y J U]
   .rw[List.length_append,DL]
    rw[iS]at to
    exact to.b6 fun y ai=>by
     rw[bJ,if_neg]
     intro e
     rcases Bg y ai with J|J
     .have:=(h.iu y J).1;omega
     .omega
   .have:=to.lt DA y ai;omega
   .rcases Bg y ai with J|J
    .exact .inl J
    .exact .inr I
end
section
variable{κ:fw}{W:kj κ}{x:hE κ}{kind d1 d3:Int}{A0 ed B0 bR:Nat}{e5 g:G}{n:Nat}{a8:List Int}{a:aE}{m:Nat->hO}{hd:Nat->List Nat}{hH:List Nat}{gi:V}{s:Nat->dM κ}{aX:List Int}{aS dc:Int}{M:Nat}{z:W.Z}{k:Nat}
theorem aDw{g:G}{fk:TypeId}{y:V}{f:FuncId}{zM:String}(aA:nj oi fk zM=some (.fn f)):tE bA.m g fk y zM=some (f,y):=by
 show tE (nj oi) g fk y zM=_
 simp only[tE,aA]
theorem Tp{kv pv:V}{most i:Int}{t:T V}{E:Nat->fp (Option aE)}{R N:fp (Option aE)}(F:sZ x kind d1 d3 A0 ed B0 bR e5)(h:kk W x kind A0 bR e5 g n a8 a m hd hH gi s aX aS dc M z)(ah:3<=k/\k<5){l:κ.L}(lH:s k= .dz l)(v7:dc<400000000)
 (T:n2 t kv pv B0 A0 ed gi aS most i) (kd:aW t (.t 14)= .int .i64 k) (l_:aW t (.t 15)= .ptr A0 (k*4))
 (aF:∀t' g' n' js a' hW oA oP ns iO td' fE z',n<=n'->kk W x kind A0 bR e5 g' n' js a' hW oA oP ns iO td' aS (dc+3) fE z'->Ar W s iO k z z' M fE->n2 t' kv pv B0 A0 ed ns aS most i->N t' g' n' (some a')):b9 lM bA BR N E R t g n (some a):=by
 obtain⟨aD,aJ,bP,dB,dN,e4,ef,fR,fS⟩:=T
 have bG:=h.q6 k I
 rw[lH]at bG
 obtain⟨lG,lb,RV,y,cU,oa,KP,cE,RP⟩:=bG
 have iY:=h.iY
 have hr:=Pl (m:=m) (i:=k) I
 rw[RV]at hr
 have hlen:=xa (m:=m)
 have eu:((k:Int)<3)=False:=eq_false I
 have cC:=F.uu h.mq
 have yV:=F.nq.2.2
 have nc:=h.dF
 obtain⟨⟨em,pV⟩,yX,⟨sj,pU⟩,_⟩:=h.jk.facts
 have hg:=h.eI k I
 rw[cE]at hg
 obtain⟨aAf,aAl⟩:=h.jk.gX (k:=k) I I lH
 have ku:=h.lt
 obtain⟨fk,B8,f,rfl,hm,gW⟩:=κ.Bx (K:=fun v bY bq cR=>∃l' er,Ce W a8 s aX aS (dc+1) M z k cR (bif κ.sF l' then .kZ else .dz l')/\Fr g bY n bq cU er/\κ.uR bY er y l'/\v= .bN [.bool (κ.G5 l'),.bool (κ.sF l')]) cC ⟨em,pV⟩ ku (fun y ai=>(hg y (by simp[ai])).2) KP aAf aAl (fun a' l' av=>by
  obtain⟨_,_,J,_⟩:=av;exact J.facts.1) fun a' l' g' n' fl' J U aq=>⟨l',fl',J,U,aq,rfl⟩
 have A':=aDw (g:=g) (y:=B8) hm
 refine aL gd (bs aD aJ bP dB dN e4 ef fR fS kd l_ (d' eu iY hr hlen oa A')) ?_
 refine qj (aR.mono gW fun B2 ko dD mz v3 lW=>?_)
 obtain⟨l',Q2,av,lD,rL,rfl⟩:=lW
 intro p_
 have m7:∀y∈cU,y∈hd k:=fun y ai=>by rw[cE];simp[ai]
 have eU:lb∈hd k:=by rw[cE];simp
 have RQ:=h.eI k I lb eU
 have jM:∀y,y<n->y∉hd k->ko y=g y:=fun y J U=>lD.aw y J fun hm=>U (m7 y hm)
 have Lc:∀y∈hH,ko y=g y:=fun y ai=>jM y (h.iu y ai).1.2 ((h.iu y ai).2 k I)
 have Bh:=h.z7.b6 Lc
 have vC:ko A0=some (.al false (gV m)):=by rw[jM A0 I fun hm=>by have:=h.eI k I _ hm;omega];exact iY
 have aAe:ko lb=some (.al false [.iface fk B8]):=by rw[lD.aw lb RQ.2 RP];exact oa
 have aAv:=lD.az
 obtain⟨Aq,kz,k2,xS,rH⟩:=av
 cases lC:κ.sF l' with
 |false=>
  simp only[lC,cond_false]at k2 xS
  refine aL (aN MQ.eq_1 gd) (bs lC aD aJ bP dB dN e4 ef fR fS kd l_) ?_
  refine aF _ ko dD a8 mz m _ hH gi _ aX Aq kz I (h.gen F I I p_ (fun y J U _ _=>jM y J U) vC (fun _ _=>rfl) (k2.mono I) h.de (fl':=lb::Q2) ⟨lG,lb,RV,_,Q2,aAe,rL,rfl,fun hm=>?_⟩ (fun y ai=>?_) Bh fun y ai=>⟨by have:=(h.iu y ai).1;omega,.inl ai,fun hm=>?_⟩) (Tu (by rw[lH];simp) aM xS rH) ⟨bD aD,bD aJ,bD bP,bD dB,bD dN,bD e4,bD ef,bD fR,bD fS⟩
  .rcases lD.sub _ hm with J|J
   .exact RP J
   .omega
  .rcases List.mem_cons.1 ai with rfl|ai
   .exact⟨I,.inl eU⟩
   .refine⟨lD.lt y ai,?_⟩
    rcases lD.sub y ai with J|J
    .exact .inl (m7 y J)
    .exact .inr J
  .have U:=h.iu y ai
   rcases List.mem_cons.1 hm with rfl|hm
   .exact U.2 k I eU
   .rcases lD.sub y hm with J|J
    .exact U.2 k I (m7 y J)
    .omega
 |true=>
  simp only[lC,cond_true]at k2 xS
  have ayV:ko ed=some (.al false [.ptr κ.an 0,.ptr κ.ar 0,.ptr x.X 0,.int .i64 kind,.int .i64 d1,.int .i64 1,.int .i64 d3,.int .i64 0]):=by
   have:=F.nq.1
   rw[jM ed I (fun hm=>by have:=h.eI k I _ hm;omega),h.mq ed this.1 this.2];exact F.S
  have uq:(A0=ed)=False:=eq_false fun e=>F.nq.1.2 e.symm
  have um:(k*4+4<=20)=True:=eq_true I
  refine aL (aN MQ.eq_1 gd) (bs lC aD aJ bP dB dN e4 ef fR fS kd (gq l_ vC ayV uq um hlen (fun m=>@Cs m _ (I:k<5)))) ?_
  obtain⟨⟨Qy,xj⟩,_,⟨xk,JD⟩,_⟩:=k2.facts
  refine qj (DY xj (by rw[xk];exact(k2.mem I).2 (by rw[ek];simp)) fun D7 v10 En R1=>?_)
  intro Dx
  obtain⟨vo,p2,Rc⟩:=k2.leave (k:=k) I (.inr (ek _ _ _)) h.de En
  rw[xo,ek]at p2
  have cH:¬jv W z (s k):=fun hw=>(W.yk (z:=z)).1 (xS hw).2.1
  have cZ:aX++(dM.kZ:dM κ).g6=aX:=by simp[dM.g6]
  rw[cZ]at p2
  refine aF _ _ D7 (a8.erase k) _ (fx m k {m k with on:=false}) (bT hd k []) hH gi _ aX vo kz I (h.gen F I I Dx (fun y J U aq aK=>?_) (by rw[bJ,if_pos rfl]) (fun j ax=>if_neg ax) (p2.mono I) (h.de.erase _) ⟨by simp[fx],rfl⟩ aM (Bh.b6 fun y ai=>?_) fun y ai=>⟨?_,.inl ai,aM⟩) (LV cH (by have:=rH cH;omega)) ⟨bD aD,bD aJ,bD bP,bD dB,bD dN,bD e4,bD ef,bD fR,bD fS⟩
  .rw[bJ,if_neg (fun e=>aK e.symm),jM y J U]
  .rw[bJ,if_neg (fun e=>by have:=(h.iu y ai).1;omega)]
  .have:=(h.iu y ai).1;omega
end
section
variable{κ:fw}{W:kj κ}{x:hE κ}{kind d1 d3:Int}{A0 ed B0 bR:Nat}{e5 g:G}{n:Nat}{a8:List Int}{a:aE}{m:Nat->hO}{hd:Nat->List Nat}{hH:List Nat}{gi:V}{s:Nat->dM κ}{aX:List Int}{aS dc:Int}{M:Nat}{z:W.Z}{k:Nat}
theorem aJ6{m:Nat->hO}{i:Nat}(h:i<5)(v:V):(gV m).set (i*4+0) v=gV (fx m i {m i with bK:=v}):=Pm h v
theorem avA{kv pv:V}{most i:Int}{t:T V}{E:Nat->fp (Option aE)}{R N:fp (Option aE)}(F:sZ x kind d1 d3 A0 ed B0 bR e5)(h:kk W x kind A0 bR e5 g n a8 a m hd hH gi s aX aS dc M z)(ah:k<3)(lH:s k= .off)
 (T:n2 t kv pv B0 A0 ed gi aS most i) (kd:aW t (.t 14)= .int .i64 k) (l_:aW t (.t 15)= .ptr A0 (k*4))
 (aF:∀t' g' n' js a' hW oA b' fE,n<=n'->kk W x kind A0 bR e5 g' n' js a' hW oA hH gi (bT s k (.bK b')) aX aS dc fE z->n2 t' kv pv B0 A0 ed gi aS most i->aW t' (.t 14)= .int .i64 k->aW t' (.t 15)= .ptr A0 (k*4)->N t' g' n' (some a')):b9 lM bA Em N E R t g n (some a):=by
 obtain⟨aD,aJ,bP,dB,dN,e4,ef,fR,fS⟩:=T
 have iY:=h.iY
 have hlen:=xa (m:=m)
 have eu:((k:Int)<3)=True:=eq_true I
 have c2:((2:Int)< (k:Int))=False:=eq_false I
 have yV:=F.nq.2.2
 have nc:=h.dF
 have vF:g ed=some (.al false [.ptr κ.an 0,.ptr κ.ar 0,.ptr x.X 0,.int .i64 kind,.int .i64 d1,.int .i64 1,.int .i64 d3,.int .i64 0]):=by
  have:=F.nq.1;rw[h.mq ed this.1 this.2];exact F.S
 have ayA:g B0=some (.al false [.int .i64 kind,.int .i64 d1,.int .i64 1,.int .i64 d3,.int .i64 0]):=by
  have:=F.nq.2.1;rw[h.mq B0 this.1 this.2];exact F.B
 have uq:(A0=ed)=False:=eq_false fun e=>F.nq.1.2 e.symm
 have avL:(A0=B0)=False:=eq_false fun e=>F.nq.2.1.2 e.symm
 have um:(k*4+4<=20)=True:=eq_true I
 obtain⟨⟨em,pV⟩,yX,⟨sj,pU⟩,_⟩:=h.jk.facts
 have me:(k:Int)∉a8:=fun hm=>(h.jk.mem I).1 hm lH
 refine aL gd (bs aD aJ bP dB dN e4 ef fR fS kd l_ vF) ?_
 refine qj (JE pV I (by rw[pU];omega) (by rw[sj];exact me) fun bq g4=>?_)
 intro dE
 refine aL gd (bs aD aJ bP dB dN e4 ef fR fS kd l_ (jO iY vF ayA uq avL eu um hlen (fun m=>@Cs m _ (I:k<5)))) ?_
 refine dO fun dC=>qj (PG (x:=x) (κ:=κ) dC fun ba aT aO fl h8 fQ=>?_)
 intro gB
 have cB:=h8.az
 have cE:∀y∈fl,y<aT/\bq<=y:=fun y ai=>⟨h8.lt y ai,by have:=h8.sub y ai;simp at this;omega⟩
 have ayx:ba A0=some (.al false (gV (fx m k {bK:=(m k).bK,dz:=(m k).dz,on:=true}))):=by rw[h8.aw A0 I aM,bJ,if_pos rfl]
 have cQ:∀y,y<bq->y≠A0->ba y=g y:=fun y J U=>by rw[h8.aw y J aM,bJ,if_neg (fun e=>U e.symm)]
 have xF:=xa (m:=fx m k {bK:=(m k).bK,dz:=(m k).dz,on:=true})
 have Jj:(k*4+1<=20)=True:=eq_true I
 have dd:=Pk (m:=fx (fx m k {bK:=(m k).bK,dz:=(m k).dz,on:=true}) k {fx m k {bK:=(m k).bK,dz:=(m k).dz,on:=true} k with bK:=V.ptr aO 0}) (i:=k) I
 have avG:(gV (fx (fx m k {bK:=(m k).bK,dz:=(m k).dz,on:=true}) k {fx m k {bK:=(m k).bK,dz:=(m k).dz,on:=true} k with bK:=V.ptr aO 0}))[k*4]? =some (.ptr aO 0):=by rw[dd];simp[fx]
 refine aL (aN aeg.eq_1 gd) (bs aD aJ bP dB dN e4 ef fR fS kd l_ (gq ayx eu c2 Jj xF (Pm (m:=fx m k {bK:=(m k).bK,dz:=(m k).dz,on:=true}) (I:k<5)) avG)) ?_
 obtain⟨Ap,J⟩:=h.jk.QC ah lH
 have gO:(a8++[(k:Int)]).Nodup:=List.nodup_append.2 ⟨h.de,aM,fun y ai B8 uM=>by simp only[List.mem_singleton]at uM;rintro rfl;exact me (uM▸ai)⟩
 have jN:=gB.a1 (I:A0<aT) (bt.al false (gV (fx (fx m k {bK:=(m k).bK,dz:=(m k).dz,on:=true}) k {fx m k {bK:=(m k).bK,dz:=(m k).dz,on:=true} k with bK:=V.ptr aO 0})))
 have L':∀y,y<bq->y≠A0->(a1 ba A0 (bt.al false (gV (fx (fx m k {bK:=(m k).bK,dz:=(m k).dz,on:=true}) k {fx m k {bK:=(m k).bK,dz:=(m k).dz,on:=true} k with bK:=V.ptr aO 0})))) y=g y:=fun y J U=>by rw[bJ,if_neg (fun e=>U e.symm)];exact cQ y J U
 have g2:ey κ.dv ba:=F.uu fun y J U=>by rw[cQ y I U];exact h.mq y J U
 have tg:=F.uu (g:=a1 ba A0 (bt.al false (gV (fx (fx m k {bK:=(m k).bK,dz:=(m k).dz,on:=true}) k {fx m k {bK:=(m k).bK,dz:=(m k).dz,on:=true} k with bK:=V.ptr aO 0})))) fun y J U=>by rw[L' y I U];exact h.mq y J U
 refine aF _ _ aT (a8++[(k:Int)]) (a.enter k) (fx (fx m k {bK:=(m k).bK,dz:=(m k).dz,on:=true}) k {fx m k {bK:=(m k).bK,dz:=(m k).dz,on:=true} k with bK:=V.ptr aO 0}) (bT hd k fl) bS.rQ Ap I (h.gen F I I jN (fun y J _ _ U=>L' y I U) (by rw[bJ,if_pos rfl]) (fun j ax=>by simp[fx,ax]) J gO ⟨by simp[fx],rfl,aO,by simp[fx],fQ.b6 g2 tg fun y ai=>?_⟩ (fun y ai=>⟨(cE y ai).1,.inr (by have:=(cE y ai).2;omega)⟩) (h.z7.b6 fun y ai=>?_) fun y ai=>⟨by have:=(h.iu y ai).1;omega,.inl ai,fun hm=>?_⟩) ⟨bD aD,bD aJ,bD bP,bD dB,bD dN,bD e4,bD ef,bD fR,bD fS⟩ (bD kd) (bD l_)
 .rw[bJ,if_neg (fun e=>by have:=cE y ai;omega)]
 .have:=(h.iu y ai).1;exact L' y I I
 .have:=(h.iu y ai).1;have:=cE y hm;omega
end
