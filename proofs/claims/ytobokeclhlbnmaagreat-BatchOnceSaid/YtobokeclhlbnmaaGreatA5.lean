/- Part of the proof of BatchOnce, for every input. -/
import Derived.Test.YtobokeclhlbnmaaGreatA4
import Derived.LoopN
import Derived.Recover
set_option linter.all false
namespace Go.Abs
structure kT(P:Program)(aQ:List Nat)(cW:Nat)(ops:Array Oper)(M:List Nat)(bQ:List dg)(m:iV)(call:Call)(base:Nat)(eb:uf)(bX:Nat->T V×H)(aa:Nat->List H):Prop where
 CA:yI M ops bQ=true
 comp:∀i∈bQ,∃o,ops[i.idx]? =some o/\us P aQ cW ops o=some i.o
 fl:∀i∈bQ,i.f_= !CN i.o.x
 run:Ob m call base bQ eb bX aa
 first:aa 0=[(bX 0).2]
def yu(bQ:List dg)(bX:Nat->T V×H)(D:Nat->Prop)(tc:T V):Prop:=
 (∀p i d,bQ[p]? =some i->D p->i.o.dst=some d->aW tc (.t d)=aW (bX (p+1)).1 (.t d))/\
 ∀x,(∀p i,bQ[p]? =some i->D p->i.o.dst≠some x)->aW tc (.t x)=aW (bX 0).1 (.t x)
def Fc(ops:Array Oper)(S:Nat->Prop):Prop:=∀(k:Nat) o,ops[k]? =some o->S k->∀p∈sL o,S p
def gC(bQ:List dg)(p:Nat):List dg:=((bQ.take p).filter (·.f_)).reverse
theorem CK(t:T V)(d:Option Nat)(v:V)(x:Nat):aW (dp t d v) (.t x)=if d=some x then v else aW t (.t x):=by
 cases d with
 |none=>simp[dp]
 |some d=>rw[dp,QM];simp
section
variable{P:Program}{aQ:List Nat}{cW:Nat}{ops:Array Oper}{M:List Nat}{bQ:List dg}{m:iV}{call:Call}{base:Nat}{eb:uf}{bX:Nat->T V×H}{aa:Nat->List H}
namespace kT
theorem s8(c:kT P aQ cW ops M bQ m call base eb bX aa):Go.Abs.s8 M 0 ops.toList=true:=by
 have:=c.CA
 simp only[yI,Bool.and_eq_true]at this
 exact this.1.1.1.1
theorem pair(c:kT P aQ cW ops M bQ m call base eb bX aa){p q:Nat}{a b:dg}(h:p<q)(a3:bQ[p]? =some a)(ad:bQ[q]? =some b):
 a.idx≠b.idx/\(∀d,a.o.dst=some d->b.o.dst≠some d)/\(∀d,a.o.dst=some d->b.o.re d=true->bit M b.idx a.idx=true)/\(∀d,b.o.dst=some d->a.o.re d=true->bit M b.idx a.idx=true)/\(b.f_=true->bit M b.idx a.idx=true):=by
 have:=c.CA
 simp only[yI,Bool.and_eq_true]at this
 have:=Qa this.1.1.1.2 p q a b h a3 ad
 simp only[Mg,Bool.and_eq_true,decide_eq_true_eq,Bool.or_eq_true]at this
 obtain⟨⟨⟨⟨J,U⟩,aq⟩,aK⟩,bx⟩:=this
 refine⟨J,fun d aH he=>?_,fun d aH hu=>?_,fun d aH hu=>?_,fun bd=>?_⟩
 .rw[aH,he]at U;simp at U
 .rw[aH]at aq;simpa[hu]using aq
 .rw[aH]at aK;simpa[hu]using aK
 .simpa[bd]using bx
theorem yM(c:kT P aQ cW ops M bQ m call base eb bX aa){p q:Nat}{a b:dg}(h:p≠q)(a3:bQ[p]? =some a)(ad:bQ[q]? =some b){d:Nat}(aH:a.o.dst=some d):b.o.dst≠some d:=by
 rcases Nat.lt_or_gt_of_ne h with h|h
 .exact(c.pair h a3 ad).2.1 d aH
 .intro he
  exact(c.pair h ad a3).2.1 d he aH
theorem GP(c:kT P aQ cW ops M bQ m call base eb bX aa){p q:Nat}{a b:dg}(a3:bQ[p]? =some a)(ad:bQ[q]? =some b)(he:a.idx=b.idx):p=q:=by
 rcases Nat.lt_trichotomy p q with h|h|h
 .exact absurd he (c.pair h a3 ad).1
 .exact h
 .exact absurd he.symm (c.pair h ad a3).1
theorem all(c:kT P aQ cW ops M bQ m call base eb bX aa):bQ.length=ops.size/\(∀i∈bQ,i.idx<ops.size)/\∀k,k<ops.size->∃(p:Nat) (i:dg),bQ[p]? =some i/\i.idx=k:=by
 have:=c.CA
 simp only[yI,P_,Bool.and_eq_true,decide_eq_true_eq,List.all_eq_true,List.any_eq_true]at this
 obtain⟨⟨_,⟨J,U⟩,aq⟩,_⟩:=this
 refine⟨J,U,fun k ah=>?_⟩
 obtain⟨i,aC,e⟩:=aq k (by simpa using ah)
 obtain⟨p,aB⟩:=List.getElem?_of_mem aC
 exact⟨p,i,aB,e⟩
theorem avd(c:kT P aQ cW ops M bQ m call base eb bX aa){i:dg}(aC:i∈bQ)(k:Nat):i.jx.testBit k=bit M i.idx k:=by
 have:=c.CA
 simp only[yI,Bool.and_eq_true,List.all_eq_true,decide_eq_true_eq]at this
 rw[this.2 i aC];rfl
theorem put(c:kT P aQ cW ops M bQ m call base eb bX aa){p:Nat}{i:dg}(aC:bQ[p]? =some i):∃v,(bX (p+1)).1=dp (bX p).1 i.o.dst v:=by
 by_cases aA:Live eb p i
 .cases bd:i.f_ with
  |false=>exact axt (t':=(bX (p+1)).1) (σ':=(bX (p+1)).2) (c.run.G' p i aC aA bd)
  |true=>exact axs (c.run.Kd p i aC aA bd)
 .exact⟨.undef,by rw[c.run.dead p i aC aA]⟩
theorem Nj(c:kT P aQ cW ops M bQ m call base eb bX aa){D:Nat->Prop}{tc:T V}(h:yu bQ bX D tc){p:Nat}{i:dg}(aC:bQ[p]? =some i){v:V}(hv:(bX (p+1)).1=dp (bX p).1 i.o.dst v){NV:Nat->Prop}(Dc:∀q,NV q↔(D q\/q=p)):
 yu bQ bX NV (dp tc i.o.dst v):=by
 refine⟨fun q j d ax av aH=>?_,fun x aj=>?_⟩
 .rw[CK]
  rcases(Dc q).1 av with fT|rfl
  .by_cases zh:q=p
   .subst zh
    rw[aC]at ax;simp at ax;subst ax
    rw[if_pos aH,hv,CK,if_pos aH]
   .rw[if_neg (fun he=>c.yM zh ax aC aH he)]
    exact h.1 q j d ax fT aH
  .rw[aC]at ax;simp at ax;subst ax
   rw[if_pos aH,hv,CK,if_pos aH]
 .rw[CK,if_neg (aj p i aC ((Dc p).2 (.inr rfl)))]
  exact h.2 x fun q j ax av=>aj q j ax ((Dc q).2 (.inl av))
theorem Ji(c:kT P aQ cW ops M bQ m call base eb bX aa):∀p,p<=bQ.length->yu bQ bX (· < p) (bX p).1
 |0,_=>⟨fun p i d _ h _=>I,fun _ _=>rfl⟩
 |p+1,aB=>by
  have aC:bQ[p]? =some bQ[p]:=by simp[show p<bQ.length from I]
  obtain⟨v,hv⟩:=c.put aC
  rw[hv]
  exact c.Nj (c.Ji p I) aC hv fun q=>I
theorem au7(c:kT P aQ cW ops M bQ m call base eb bX aa){D:Nat->Prop}{tc:T V}(h:yu bQ bX D tc){p:Nat}{i:dg}(aC:bQ[p]? =some i)(aB:¬D p)
 (ad:∀q j,bQ[q]? =some j->bit M i.idx j.idx=true->D q) (a3:∀q j,bQ[q]? =some j->bit M j.idx i.idx=true->¬D q):∀x,i.o.re x=true->aW tc (.t x)=aW (bX p).1 (.t x):=by
 intro x aj
 have aAK:p<bQ.length:=(List.getElem?_eq_some_iff.1 aC).1
 have af:=c.Ji p I
 by_cases hw:∃q j,bQ[q]? =some j/\j.o.dst=some x/\q≠p
 .obtain⟨q,j,ax,aH,zh⟩:=hw
  have only:∀r k,bQ[r]? =some k->k.o.dst=some x->r=q:=by
   intro r k ah dQ
   by_cases Si:r=q
   .exact Si
   .exact absurd aH (c.yM Si ah ax dQ)
  rcases Nat.lt_or_gt_of_ne zh with ap|Ds
  .have:=(c.pair ap ax aC).2.2.1 x aH aj
   rw[h.1 q j x ax (ad q j ax this) aH,af.1 q j x ax ap aH]
  .have:=(c.pair Ds aC ax).2.2.2.1 x aH aj
   have aAB:=a3 q j ax this
   rw[h.2 x fun r k ah ak dQ=>aAB (only r k ah dQ▸ak),af.2 x fun r k ah ak dQ=>by
    have:=only r k ah dQ
    omega]
 .have hb:∀q j,bQ[q]? =some j->q≠p->j.o.dst≠some x:=fun q j ax av aH=>hw ⟨q,j,ax,aH,av⟩
  rw[h.2 x fun r k ah ak=>hb r k ah (fun e=>aB (e▸ak)),af.2 x fun r k ah ak=>hb r k ah I]
theorem aBl{p:Nat}{i:dg}(aC:bQ[p]? =some i):gC bQ (p+1)=if i.f_ then i::gC bQ p else gC bQ p:=by
 have ap:=(List.getElem?_eq_some_iff.1 aC).1
 have e:=(List.getElem?_eq_some_iff.1 aC).2
 simp only[gC]
 rw[List.take_succ_eq_append_getElem ap,e,List.filter_append]
 by_cases bd:i.f_
 .simp[bd]
 .simp[bd]
theorem RJ(c:kT P aQ cW ops M bQ m call base eb bX aa)(q:Nat):∀n,q+n<=bQ.length->∃a b,aa (q+n)=a++aa q/\gC bQ (q+n)=b++gC bQ q/\a.length=b.length/\∀h∈b,∃r,q<=r/\bQ[r]? =some h/\h.f_=true
 |0,_=>⟨[],[],rfl,rfl,rfl,aM⟩
 |n+1,az=>by
  obtain⟨a,b,J,U,aq,aK⟩:=c.RJ q n I
  have aC:bQ[q+n]? =some (bQ[q+n]'I):=by simp[show q+n<bQ.length from I]
  have ak:=c.run.cs _ _ aC
  have hv:=aBl aC
  rw[show q+(n+1)=q+n+1 from rfl,ak,hv,J,U]
  by_cases bd:(bQ[q+n]'I).f_=true
  .rw[if_pos bd,if_pos bd]
   refine⟨_::a,_::b,rfl,rfl,by simp[aq],fun h hm=>?_⟩
   rcases List.mem_cons.1 hm with rfl|hm
   .exact⟨q+n,I,aC,bd⟩
   .exact aK h hm
  .rw[if_neg bd,if_neg bd]
   exact⟨a,b,rfl,rfl,aq,aK⟩
theorem PM{M:List Nat}:∀{l hv:List dg},FQ M hv l=true->∀p i,l[p]? =some i->i.f_=false->SC i.o.x=true->1<=i.back/\∀h,(gC l p++hv)[i.back-1]? =some h->bit M i.idx h.idx=true
 |[],hv,_,p,i,h,_,_=>by simp at h
 |j::l,hv,af,p,i,aC,bd,aA=>by
  simp only[FQ,Bool.and_eq_true,Bool.or_eq_true]at af
  cases p with
  |zero=>
   simp at aC;subst aC
   rcases af.1 with(h|h)|h
   .rw[bd]at h;simp at h
   .rw[aA]at h;simp at h
   .simp only[decide_eq_true_eq]at h
    refine⟨h.1,fun k ah=>?_⟩
    have:gC (j::l) 0++hv=hv:=by simp[gC]
    rw[this]at ah
    have U:=h.2
    rw[ah]at U;exact U
  |succ p=>
   have:=PM af.2 p i (by simpa using aC) bd aA
   refine⟨this.1,fun k ah=>this.2 k ?_⟩
   rw[<-ah]
   congr 1
   simp only[gC,List.take_succ_cons,List.filter_cons]
   by_cases ax:j.f_=true<;>simp[ax]
end kT
end
end Go.Abs
namespace Go.Abs
section
section
variable{P:Program}{aQ:List Nat}{cW:Nat}{ops:Array Oper}{M:List Nat}{bQ:List dg}{m:iV}{call:Call}{base:Nat}{eb:uf}{bX:Nat->T V×H}{aa:Nat->List H}
variable{j':F}{σ0:H}{w0:World}
def aua(base:Nat)(bX:Nat->T V×H)(w0:World)(c:Nat)(φ:F)(w:World)(p:Nat)(i:dg)(x:pq):Prop:=
 ∃B mk pl obj,nT (aW (bX p).1) x=some (B,mk)/\B.ro=false/\φ (base+i.idx)=some pl/\w.heap[pl.b4]? =some obj/\w0.heap.size<=pl.b4/\
  (∀(w':World) (ec:F),φ.le ec->w'.heap[pl.b4]? =some obj->ri ec w' pl B/\qE w' pl)/\∀b lh q,(bX c).2.get b=some lh->φ b=some q->q.b4≠pl.b4
structure pn(bQ:List dg)(base:Nat)(bX:Nat->T V×H)(j':F)(σ0:H)(w0:World)(S:Nat->Prop)(c:Nat)(φ:F)(w:World):Prop where
 qq:cM j' σ0 w0 φ (bX c).2 w
 room:base+bQ.length<=(bX c).2.next
 BP:∀(p:Nat) (i:dg) (x:pq),bQ[p]? =some i->c<=p->S i.idx->i.f_=false->i.o.x= .a x->nX (bX p).1 i.o.g=true->aua base bX w0 c φ w p i x
 AK:∀(p:Nat) (i:dg) (q:Nat) (j:dg) (pl sK:pQ),bQ[p]? =some i->bQ[q]? =some j->p≠q->c<=p->c<=q->φ (base+i.idx)=some pl->φ (base+j.idx)=some sK->pl.b4≠sK.b4
theorem pn.mono{S S':Nat->Prop}{c:Nat}{φ:F}{w:World}(h:pn bQ base bX j' σ0 w0 S c φ w)(vE:∀(p:Nat) (i:dg) (x:pq),bQ[p]? =some i->c<=p->S' i.idx->i.f_=false->i.o.x= .a x->nX (bX p).1 i.o.g=true->S i.idx):pn bQ base bX j' σ0 w0 S' c φ w:=
 ⟨h.qq,h.room,fun p i x aC af aa bd aj hw=>h.BP p i x aC af (vE p i x aC af aa bd aj hw) bd aj hw,h.AK⟩
theorem cM.show{φ:F}{σ:H}{w:World}(h:cM j' σ0 w0 φ σ w){id:Nat}{B:jq}{pl:pQ}(aB:φ id=some pl)(ad:ri φ w pl B)(ha:B.ro=false)(fB:w0.heap.size<=pl.b4)(KG:σ0.next<=id)
 (aA:∀b lh q,σ.get b=some lh->φ b=some q->q.b4≠pl.b4):cM j' σ0 w0 φ (σ.set id B) w:=by
 refine⟨⟨?_,?_,fun b p aB=>h.rel.kY b p aB⟩,h.ext,h.j4,?_,h.size,h.os,h.out,h.next,h.old,?_,?_⟩
 .intro b C cv
  rw[H.k1]at cv
  by_cases eN:id=b
  .rw[if_pos eN]at cv
   simp at cv;subst cv;subst eN
   exact⟨pl,aB,ad⟩
  .rw[if_neg eN]at cv;exact h.rel.kc b C cv
 .intro b C b' vf p ql cv n6 lX gQ xw
  rw[H.k1]at cv n6
  by_cases J:id=b<;>by_cases U:id=b'
  .exact J.symm.trans U
  .subst J
   rw[if_neg U]at n6
   rw[aB]at lX;simp at lX;subst lX
   exact absurd xw.symm (aA b' vf ql n6 gQ)
  .subst U
   rw[if_neg J]at cv
   rw[aB]at gQ;simp at gQ;subst gQ
   exact absurd xw (aA b C p cv lX)
  .rw[if_neg J]at cv;rw[if_neg U]at n6
   exact h.rel.inj _ _ _ _ _ _ cv n6 lX gQ xw
 .rintro k ⟨b,C,p,cv,ak,lX,rfl⟩
  rw[H.k1]at cv
  by_cases J:id=b
  .subst J
   rw[aB]at lX;simp at lX;subst lX
   exact .inr fB
  .rw[if_neg J]at cv
   exact h.xn _ ⟨b,C,p,cv,ak,lX,rfl⟩
 .intro b C cv ap
  rw[H.k1,if_neg I]at cv
  exact h.back b C cv ap
 .intro b C cv hle
  rw[H.k1]at cv
  by_cases J:id=b
  .rw[if_pos J]at cv
   simp at cv;subst cv;exact ha
  .rw[if_neg J]at cv;exact h.fresh b C cv hle
theorem pn.advance(cS:kT P aQ cW ops M bQ m call base eb bX aa)(uA:σ0.next=base){S:Nat->Prop}{c:Nat}{φ:F}{w:World}(h:pn bQ base bX j' σ0 w0 S c φ w){i:dg}(aC:bQ[c]? =some i)(bd:i.f_=false)(vE:S i.idx)(aA:Live eb c i):
 pn bQ base bX j' σ0 w0 S (c+1) φ w:=by
 have fJ:=cS.run.G' c i aC aA bd
 unfold qH at fJ
 split at fJ
 .simp at fJ
 have same:(bX (c+1)).2=(bX c).2->pn bQ base bX j' σ0 w0 S (c+1) φ w:=fun e=>
  ⟨by rw[e];exact h.qq,by rw[e];exact h.room,fun p j x ax af aa bd aj hw=>by
   obtain⟨B,mk,pl,obj,cR,b7,fF,gx,mz,yB,w_⟩:=h.BP p j x ax I aa bd aj hw
   exact⟨B,mk,pl,obj,cR,b7,fF,gx,mz,yB,by rw[e];exact w_⟩,fun p j q k pl sK J U aq aK bx=>h.AK p j q k pl sK J U aq I I⟩
 split at fJ
 .rename_i hw
  split at fJ
  .obtain⟨v,_,e⟩:=eY fJ
   rw[Prod.ext_iff]at e
   exact same e.2
  .rename_i x aj
   obtain⟨⟨B,mk⟩,fs,e⟩:=eY fJ
   rw[Prod.ext_iff]at e
   have aJ:(bX (c+1)).2=(bX c).2.set (base+i.idx) B:=e.2
   obtain⟨lh,mk',pl,obj,cR,b7,fF,gx,mz,yB,w_⟩:=h.BP c i x aC (Nat.le_refl _) vE bd aj hw
   rw[fs]at cR
   simp at cR
   obtain⟨rfl,rfl⟩:=cR
   obtain⟨b1,b2⟩:=yB w φ (F.le_refl φ) gx
   refine⟨by rw[aJ];exact h.qq.show fF b1 b7 mz I w_,by rw[aJ];exact h.room,fun p j y ax af aa azT ai hb=>?_,fun p j q k pl sK J U aq aK bx=>h.AK p j q k pl sK J U aq I I⟩
   obtain⟨C,D5,Mi,Ea,c1,c2,eu,jH,m1,Je,Jf⟩:=h.BP p j y ax I aa azT ai hb
   refine⟨C,D5,Mi,Ea,c1,c2,eu,jH,m1,Je,fun b ub q cy av=>?_⟩
   rw[aJ,H.k1]at cy
   by_cases ad:base+i.idx=b
   .subst ad
    exact h.AK c i p j q Mi aC ax I (Nat.le_refl _) I av eu
   .rw[if_neg ad]at cy;exact Jf b ub q cy av
  .split at fJ
   .split at fJ
    .simp only[Option.some.injEq,Prod.ext_iff]at fJ
     exact same fJ.2.symm
    .simp at fJ
   .simp at fJ
  .simp at fJ
 .simp only[Option.some.injEq,Prod.ext_iff]at fJ
  exact same fJ.2.symm
theorem pn.reach(cS:kT P aQ cW ops M bQ m call base eb bX aa)(uA:σ0.next=base){S:Nat->Prop}{c:Nat}{φ:F}{w:World}(h:pn bQ base bX j' σ0 w0 S c φ w):∀n,c+n<=bQ.length->(∀(q:Nat) (i:dg),c<=q->q<c+n->bQ[q]? =some i->i.f_=false/\S i.idx/\Live eb q i)->
 pn bQ base bX j' σ0 w0 S (c+n) φ w
 |0,_,_=>h
 |n+1,az,av=>by
  have aC:bQ[c+n]? =some (bQ[c+n]'I):=by simp[show c+n<bQ.length from I]
  obtain⟨J,U,aq⟩:=av _ _ I I aC
  exact(pn.reach cS uA h n I fun q i a b=>av q i a I).advance cS uA aC J U aq
structure yr(P:Program)(aQ:List Nat)(cW:Nat)(ds:List Deferred)(ops:Array Oper)(bQ:List dg)(base:Nat)(eb:uf)(bX:Nat->T V×H)(j':F)(σ0:H)(w0:World)(S:Nat->Prop)(c:Nat)(φ:F)(tc:T V)(a:Act)(w:World):Prop where
 closed:Fc ops S
 dG:yu bQ bX (fun p=>∃i:dg,bQ[p]? =some i/\S i.idx) tc
 xd:jT φ cW ds tc a
 Jo:c<=bQ.length
 pre:∀(p:Nat) (i:dg),p<c->bQ[p]? =some i->S i.idx
 post:∀(p:Nat) (i:dg),c<=p->bQ[p]? =some i->i.f_=true->¬S i.idx
 last:c=0\/∃(i:dg) (q:Nat),c=q+1/\bQ[q]? =some i/\i.f_=true
 rU:pn bQ base bX j' σ0 w0 S c φ w
 Uh:∀(p:Nat) (i:dg),bQ[p]? =some i->i.f_=false->¬S i.idx->φ (base+i.idx)=none
 D':∀(hj k:Nat) v hN,eb=some (hj,k,v,hN)->¬S k
theorem kT.live(cS:kT P aQ cW ops M bQ m call base eb bX aa){S:Nat->Prop}(hs:Fc ops S)(dy:∀(hj k:Nat) v hN,eb=some (hj,k,v,hN)->¬S k){p:Nat}{i:dg}(aC:bQ[p]? =some i){o:Oper}(au:ops[i.idx]? =some o)(aB:∀q∈sL o,S q):
 Live eb p i\/∃k v hN t',eb=some (p,k,v,hN)/\i.f_=true/\km m call i.o (bX p).1 (bX p).2=some (.fN v t' hN):=by
 cases iK:eb with
 |none=>exact .inl trivial
 |some q=>
  obtain⟨hj,k,v,hN⟩:=q
  obtain⟨ip,t',cR,b7,fF,gx⟩:=cS.run.fN hj k v hN iK
  have jx:=I4 cS.s8 hs i.idx o au aB
  have ad:bit M i.idx k=false:=by
   cases ad:bit M i.idx k with
   |false=>rfl
   |true=>exact absurd (jx k ad) (dy hj k v hN iK)
  rcases Nat.lt_trichotomy p hj with h|h|h
  .exact .inl (.inl h)
  .subst h
   rw[aC]at cR;simp at cR;subst cR
   exact .inr ⟨k,v,hN,t',rfl,fF,gx⟩
  .refine .inl (.inr ⟨h,?_,?_⟩)
   .cases bd:i.f_ with
    |false=>rfl
    |true=>
     have:=(cS.pair h cR aC).2.2.2.2 bd
     rw[b7,ad]at this;simp at this
   .rw[cS.avd (List.mem_of_getElem? aC)];exact ad
theorem kT.SY(cS:kT P aQ cW ops M bQ m call base eb bX aa){S:Nat->Prop}(hs:Fc ops S)(dy:∀(hj k:Nat) v hN,eb=some (hj,k,v,hN)->¬S k){p:Nat}{i:dg}(aC:bQ[p]? =some i)(bd:i.f_=false)(aa:S i.idx):Live eb p i:=by
 have ap:=cS.all.2.1 i (List.mem_of_getElem? aC)
 have au:ops[i.idx]? =some ops[i.idx]:=by simp[ap]
 rcases cS.live hs dy aC au (hs _ _ au aa)with h|⟨_,_,_,_,_,h,_⟩
 .exact h
 .rw[bd]at h;simp at h
theorem yr.done(cS:kT P aQ cW ops M bQ m call base eb bX aa)(uA:σ0.next=base){ds:List Deferred}{S:Nat->Prop}{c:Nat}{φ:F}{tc:T V}{a:Act}{w:World}(h:yr P aQ cW ds ops bQ base eb bX j' σ0 w0 S c φ tc a w)(lQ:∀(p:Nat) (i:dg),bQ[p]? =some i->S i.idx):
 cM j' σ0 w0 φ (bX bQ.length).2 w/\jT φ cW ds (bX bQ.length).1 a:=by
 have ak:=h.rU.reach cS uA (bQ.length-c) (by have:=h.Jo;omega) fun q i av _ aC=>by
  have bd:i.f_=false:=by
   cases bd:i.f_ with
   |false=>rfl
   |true=>exact absurd (lQ q i aC) (h.post q i av aC bd)
  exact⟨bd,lQ q i aC,cS.SY h.closed h.D' aC bd (lQ q i aC)⟩
 rw[show c+(bQ.length-c)=bQ.length from by have:=h.Jo;omega]at ak
 refine⟨ak.qq,⟨fun x=>?_,h.xd.size,h.xd.defers⟩⟩
 have af:=cS.Ji bQ.length (Nat.le_refl _)
 have e:aW tc (.t x)=aW (bX bQ.length).1 (.t x):=by
  by_cases hw:∃(q:Nat) (j:dg),bQ[q]? =some j/\j.o.dst=some x
  .obtain⟨q,j,ax,aH⟩:=hw
   rw[h.dG.1 q j x ax ⟨j,ax,lQ q j ax⟩ aH,af.1 q j x ax (List.getElem?_eq_some_iff.1 ax).1 aH]
  .have hb:∀(q:Nat) (j:dg),bQ[q]? =some j->j.o.dst≠some x:=fun q j ax aH=>hw ⟨q,j,ax,aH⟩
   rw[h.dG.2 x fun r k ah _=>hb r k ah,af.2 x fun r k ah _=>hb r k ah]
 rw[<-e];exact h.xd.rel x
theorem QN(t:T V)(x:Nat):∀l:List dg,(aW (wP t l) (.t x)= .any\/(∀i∈l,i.o.dst≠some x)/\aW (wP t l) (.t x)=aW t (.t x))
 |[]=>.inr ⟨aM,rfl⟩
 |i::l=>by
  simp only[wP]
  rw[CK]
  by_cases h:i.o.dst=some x
  .rw[if_pos h];exact .inl rfl
  .rw[if_neg h]
   rcases QN t x l with J|⟨J,U⟩
   .exact .inl J
   .refine .inr ⟨fun j ax=>?_,U⟩
    rcases List.mem_cons.1 ax with rfl|ax
    .exact h
    .exact J j ax
theorem yu.lost{D:Nat->Prop}{φ:F}{ds:List Deferred}{tc:T V}{a:Act}(h:yu bQ bX D tc)(hw:jT φ cW ds tc a):jT φ cW ds (wP (bX 0).1 bQ) a:=by
 refine⟨fun x=>?_,hw.size,hw.defers⟩
 rcases QN (bX 0).1 x bQ with J|⟨J,U⟩
 .rw[J];exact .any _
 .rw[U,<-h.2 x fun p i aC _=>J i (List.mem_of_getElem? aC)]
  exact hw.rel x
end
end
section
section
variable{P:Program}{aQ:List Nat}{cW:Nat}{ops:Array Oper}{M:List Nat}{bQ:List dg}{m:iV}{call:Call}{base:Nat}{eb:uf}{bX:Nat->T V×H}{aa:Nat->List H}
variable{j':F}{σ0:H}{w0:World}
theorem cM.ahead{φ:F}{σ:H}{w:World}(h:cM j' σ0 w0 φ σ w){id:Nat}(KG:φ id=none)(ap:id<σ.next)(a5:σ0.next<=id)(obj:Obj){n:Nat}(aa:∀w':World,w'.heap[w.heap.size]? =some obj->qE w' ⟨w.heap.size,0,n⟩):
 cM j' σ0 w0 (φ.put id ⟨w.heap.size,0,n⟩) σ {w with heap:=w.heap.push obj}:=by
 have hle:φ.le (φ.put id ⟨w.heap.size,0,n⟩):=by
  intro b p aB
  simp only[F.put]
  rw[if_neg (by rintro rfl;rw[KG]at aB;simp at aB)];exact aB
 have bp:∀b B,σ.get b=some B->b≠id:=by
  rintro b B cy rfl
  obtain⟨p,aB,_⟩:=h.rel.kc _ _ cy
  rw[KG]at aB;simp at aB
 have su:∀b,b≠id->(φ.put id ⟨w.heap.size,0,n⟩) b=φ b:=fun b ad=>by simp only[F.put];rw[if_neg ad]
 have j4:∀k,k<w.heap.size->(w.heap.push obj)[k]? =w.heap[k]? :=fun k ah=>Kt ah
 refine⟨⟨?_,?_,?_⟩,F.le_trans h.ext hle,?_,?_,?_,h.os,h.out,h.next,?_,h.back,h.fresh⟩
 .intro b B cy
  obtain⟨p,aB,ad⟩:=h.rel.kc b B cy
  refine⟨p,hle _ _ aB,?_⟩
  have ap:=(h.rel.kY b p aB).2.lt
  exact ad.congr hle (j4 _ ap)
 .intro b B b' lh p ql cy Q6 aB eV
  rw[su _ (bp _ _ cy)]at aB
  rw[su _ (bp _ _ Q6)]at eV
  exact h.rel.inj _ _ _ _ _ _ cy Q6 aB eV
 .intro b p aB
  by_cases ad:b=id
  .subst ad
   simp[F.put]at aB;subst aB
   exact⟨ap,aa _ aM⟩
  .rw[su _ ad]at aB
   obtain⟨J,U⟩:=h.rel.kY b p aB
   have aq:=U.lt
   refine⟨J,?_⟩
   unfold qE at U |-
   rw[j4 _ aq];exact U
 .intro k ah aV
  rw[<-h.j4 k ah aV]
  exact j4 k (Nat.lt_of_lt_of_le ah h.size)
 .rintro k ⟨b,B,p,cy,ak,aB,rfl⟩
  rw[su _ (bp _ _ cy)]at aB
  exact h.xn _ ⟨b,B,p,cy,ak,aB,rfl⟩
 .have:=h.size
  (first|omega|(simp;omega))
 .intro b ad dm
  rw[su _ I]
  exact h.old b ad dm
theorem awS{op:Go.Op}{n:Nat}{g:Bool}{x:aG}(h:gZ P aQ op=some (.load n g x)):∃t a,op= .load t a/\jQ P t=some n/\se P t=some g/\eS aQ a=some x:=by
 cases op
 case load t a=>
  simp only[gZ]at h
  split at h
  .rename_i n' g' az aw
   obtain⟨cR,a3,e⟩:=eY h
   simp at e
   obtain⟨rfl,rfl,rfl⟩:=e
   exact⟨t,a,rfl,az,aw,a3⟩
  .simp at h
 case slice c6 cO fc kR iB=>
  cases iB<;>simp only[gZ]at h
  ·(repeat' split at h)<;>(try simp at h)
  .simp at h
 case call c=>
  obtain⟨ce,as,bM⟩:=c
  cases ce with
  |builtin b=>cases b<;>simp only[gZ]at h<;>(repeat' split at h)<;>simp[kX]at h<;>(try(repeat' split at h)<;>simp at h)
  |value q=>simp only[gZ]at h;(repeat' split at h)<;>simp at h
  |invoke r n=>simp only[gZ]at h;(repeat' split at h)<;>simp at h
 all_goals(simp only[gZ]at h;(repeat' split at h)<;>(try simp[kX]at h)<;>(try(repeat' split at h)<;>simp at h))
theorem pn.first(cS:kT P aQ cW ops M bQ m call base eb bX aa){c:Nat}(aA:c=0\/∃(i:dg) (q:Nat),c=q+1/\bQ[q]? =some i/\i.f_=true):(aa c)[0]? =some (bX c).2:=by
 rcases aA with rfl|⟨i,q,rfl,aC,bd⟩
 .rw[cS.first];rfl
 .rw[cS.run.cs q i aC,if_pos bd];rfl
theorem yr.step(cS:kT P aQ cW ops M bQ m call base eb bX aa)(uA:σ0.next=base)(hm:rq P m)(lA:rj P aQ call)(Kz:nZ j' aQ){ds:List Deferred}{S:Nat->Prop}{c:Nat}{φ:F}{tc:T V}{a:Act}{w:World}(h:yr P aQ cW ds ops bQ base eb bX j' σ0 w0 S c φ tc a w)
 {p:Nat} {i:dg} (aC:bQ[p]? =some i) {o:Oper} (au:ops[i.idx]? =some o) (az:¬S i.idx) (aB:∀q∈sL o,S q) {S':Nat->Prop} (so:∀k,S' k↔(S k\/k=i.idx)) {Q:Exit->Act->World->Prop} {K:Act->World->Prop}
 (p3:∀(hj k:Nat) v hN,eb=some (hj,k,v,hN)->∀cz a' w' v',cM j' σ0 w0 cz hN w'->jT cz cW ds (wP (bX 0).1 bQ) a'->cu cz v v'->Q (.panic [{v:=v',recovered:=false}]) a' w')
 (jI:∀c' cz asv a' w',yr P aQ cW ds ops bQ base eb bX j' σ0 w0 S' c' cz asv a' w'->K a' w'):wpOp P ops Q i.idx K a w:=by
 have vO:c<=p:=by
  rcases Nat.lt_or_ge p c with ay|ay
  .exact absurd (h.pre p i ay aC) az
  .exact ay
 have aAK:p<bQ.length:=(List.getElem?_eq_some_iff.1 aC).1
 obtain⟨hlen,Gn,_⟩:=cS.all
 have aKP:i.idx<bQ.length:=by rw[hlen];exact Gn i (List.mem_of_getElem? aC)
 have jx:=I4 cS.s8 h.closed i.idx o au aB
 have desc:∀(q:Nat) (j:dg),bQ[q]? =some j->bit M j.idx i.idx=true->¬S j.idx:=by
  intro q j ax ad aa
  have KK:=Gn j (List.mem_of_getElem? ax)
  have R6:ops[j.idx]? =some ops[j.idx]:=by simp[KK]
  exact az (I4 cS.s8 h.closed j.idx _ R6 (h.closed _ _ R6 aa) _ ad)
 have Dc:¬(∃j:dg,bQ[p]? =some j/\S j.idx):=by
  rintro⟨j,ax,aa⟩
  rw[aC]at ax;simp at ax;subst ax
  exact az aa
 have b6:=cS.au7 h.dG aC Dc (fun q j ax ad=>⟨j,ax,jx _ ad⟩) (fun q j ax ad=>by
  rintro⟨k,ah,aa⟩
  rw[ax]at ah;simp at ah;subst ah
  exact desc q j ax ad aa)
 have Q7:∀q,(∃j:dg,bQ[q]? =some j/\S' j.idx)↔((∃j:dg,bQ[q]? =some j/\S j.idx)\/q=p):=by
  intro q
  constructor
  .rintro⟨j,ax,aa⟩
   rcases(so _).1 aa with aa|he
   .exact .inl ⟨j,ax,aa⟩
   .exact .inr (cS.GP ax aC he)
  .rintro(⟨j,ax,aa⟩|rfl)
   .exact⟨j,ax,(so _).2 (.inl aa)⟩
   .exact⟨i,aC,(so _).2 (.inr rfl)⟩
 have Qd:Fc ops S':=by
  intro k mT ss aa q av
  rcases(so k).1 aa with aa|rfl
  .exact(so q).2 (.inl (h.closed k mT ss aa q av))
  .rw[au]at ss;simp at ss;subst ss
   exact(so q).2 (.inl (aB q av))
 have other:∀(q:Nat) (j:dg),bQ[q]? =some j->q≠p->S' j.idx->S j.idx:=by
  intro q j ax av aa
  rcases(so _).1 aa with aa|he
  .exact aa
  .exact absurd (cS.GP ax aC he) av
 obtain⟨mT,ss,af⟩:=cS.comp i (List.mem_of_getElem? aC)
 rw[au]at ss;simp at ss;subst ss
 have Rp:=af
 unfold us at af
 split at af
 case h_2=>simp at af
 rename_i y g ai KB
 split at af
 case isFalse=>simp at af
 rename_i AX
 simp only[Option.some.injEq]at af
 have ex:i.o.x=y:=by rw[<-af]
 have pV:i.o.g=g:=by rw[<-af]
 have axa:i.o.dst=o.dst:=by rw[<-af]
 have KD:nZ φ aQ:=Kz.mono h.rU.qq.ext
 have he:=FY h.xd.rel KD
 have GK:pf (bX p).1 i.o.g=false->Region.wanted o (yielded ops a.tmps)=nX (bX p).1 i.o.g:=fun hu=>by
  rw[asN h.xd rfl KB (by rw[<-pV,I2 b6];exact hu),<-pV,I3 b6]
 have TD:∀(hj k:Nat) v hN,eb=some (hj,k,v,hN)->Live eb p i->¬S' k:=by
  intro hj k v hN e aA aa
  rcases(so k).1 aa with aa|rfl
  .exact h.D' hj k v hN e aa
  .obtain⟨ip,t',cR,b7,fF,gx⟩:=cS.run.fN hj _ v hN e
   have:=cS.GP cR aC b7
   subst this
   rw[aC]at cR;simp at cR;subst cR
   rw[e]at aA
   simp[Live,fF]at aA
 have tl:=cS.live h.closed h.D' aC au aB
 have stay:∀(cz:F) (v:V) (v':Value) (w':World),i.f_=false->(bX (p+1)).1=dp (bX p).1 i.o.dst v->φ.le cz->cu cz v v'->pn bQ base bX j' σ0 w0 S' c cz w'->
  (∀(q:Nat) (j:dg),bQ[q]? =some j->j.f_=false->¬S' j.idx->cz (base+j.idx)=none)->K (a.put o.dst v') w':=by
  intro cz v v' w' bd hv hle kg aA aAL
  have A9:Live eb p i:=by
   rcases tl with ay|⟨_,_,_,_,_,ay,_⟩
   .exact ay
   .rw[bd]at ay;simp at ay
  refine jI c cz (dp tc i.o.dst v) _ w' ⟨Qd,cS.Nj h.dG aC hv Q7,?_,h.Jo,fun q j av ax=>(so _).2 (.inl (h.pre q j av ax)),?_,h.last,aA,aAL,fun hj k v hN e=>TD hj k v hN e A9⟩
  .rw[axa];exact(h.xd.mono hle).put AX kg
  .intro q j av ax nF aa
   refine h.post q j av ax nF (other q j ax ?_ aa)
   rintro rfl
   rw[aC]at ax;simp at ax;subst ax
   rw[bd]at nF;simp at nF
 have El:∀(q:Nat) (j:dg),bQ[q]? =some j->j.f_=false->¬S' j.idx->φ (base+j.idx)=none:=fun q j ax bd aa=>
  h.Uh q j ax bd fun ay=>aa ((so _).2 (.inl ay))
 unfold wpOp
 simp only[au]
 cases bd:i.f_ with
 |false=>
  have A9:Live eb p i:=by
   rcases tl with ay|⟨_,_,_,_,_,ay,_⟩
   .exact ay
   .rw[bd]at ay;simp at ay
  have fJ:=cS.run.G' p i aC A9 bd
  unfold qH at fJ
  split at fJ
  .simp at fJ
  rename_i tp
  have tp:pf (bX p).1 i.o.g=false:=by simpa using tp
  have GK:=GK tp
  split at fJ
  .rename_i hw
   rw[GK,hw]
   simp only[if_true]
   refine .inl ?_
   unfold Oper.wp
   have SX:(∀x,i.o.x≠ .a x)->pn bQ base bX j' σ0 w0 S' c φ w:=fun aj=>h.rU.mono fun q j x ax av aa nF RK vX=>by
    refine other q j ax ?_ aa
    rintro rfl
    rw[aC]at ax;simp at ax;subst ax
    exact aj _ RK
   split at fJ
   .rename_i x aj
    obtain⟨v,hv,e⟩:=eY fJ
    rw[Prod.ext_iff]at e
    have hs:m4 P aQ o.op=some x:=by
     rcases AJ ai with⟨z,mF,bB⟩|⟨z,mF,bB⟩|bB
     .rw[<-ex,aj]at mF;simp at mF;subst mF;exact bB
     .rw[<-ex,aj]at mF;simp at mF
     .rw[<-ex,aj]at bB;exact absurd bB ((Qh aQ o.op).1 x)
    rw[<-asj x (by have:=Cr b6;rw[aj]at this;exact this)]at hv
    obtain⟨v',ak,kg⟩:=SV he hs hv w
    rw[ak,Oper.upon_value]
    exact stay φ v v' w bd e.1 (F.le_refl φ) kg (SX (by rw[aj];simp)) El
   .rename_i x aj
    obtain⟨⟨B,mk⟩,fs,e⟩:=eY fJ
    rw[Prod.ext_iff]at e
    have azf:CC P aQ o.op=some x:=by
     rcases AJ ai with⟨z,mF,bB⟩|⟨z,mF,bB⟩|bB
     .rw[<-ex,aj]at mF;simp at mF
     .rw[<-ex,aj]at mF;simp at mF;subst mF;exact bB
     .rw[<-ex,aj]at bB;exact absurd bB ((Qh aQ o.op).2 x)
    have Sm:=fs
    rw[<-asi x (by have:=Cr b6;rw[aj]at this;exact this)]at Sm
    obtain⟨ha,DB⟩:=Th he azf Sm
    obtain⟨v',obj,n,ak,ad,kg⟩:=DB w
    rw[ak,Oper.upon_value]
    have DF:=h.Uh p i aC bd az
    have o8:=h.rU.room
    have azX:base+i.idx< (bX c).2.next:=I
    have hle:φ.le (φ.put (base+i.idx) ⟨w.heap.size,0,n⟩):=by
     intro b q av
     simp only[F.put]
     rw[if_neg (by rintro rfl;rw[DF]at av;simp at av)];exact av
    have su:∀b,b≠base+i.idx->(φ.put (base+i.idx) ⟨w.heap.size,0,n⟩) b=φ b:=fun b ad=>by simp only[F.put];rw[if_neg ad]
    have GC:(φ.put (base+i.idx) ⟨w.heap.size,0,n⟩) (base+i.idx)=some ⟨w.heap.size,0,n⟩:=by simp[F.put]
    have Gk:∀b lh,(bX c).2.get b=some lh->b≠base+i.idx:=by
     rintro b lh cy rfl
     obtain⟨q,av,_⟩:=h.rU.qq.rel.kc _ _ cy
     rw[DF]at av;simp at av
    have ap:∀b q,φ b=some q->q.b4<w.heap.size:=fun b q av=>(h.rU.qq.rel.kY b q av).2.lt
    have Gm:∀(q:Nat) (j:dg),bQ[q]? =some j->q≠p->base+j.idx≠base+i.idx:=fun q j ax av e=>av (cS.GP ax aC I)
    refine stay _ _ v' _ bd e.1 hle (kg _ _ GC) ⟨h.rU.qq.ahead DF azX I obj fun w' hb=>(ad w' _ φ (F.le_refl φ) hb).2,o8,?_,?_⟩ ?_
    .intro q j y ax av aa nF A4 vX
     by_cases zh:q=p
     .subst zh
      rw[aC]at ax;simp at ax;subst ax
      rw[aj]at A4;simp at A4;subst A4
      refine⟨B,mk,_,obj,fs,ha,GC,aM,h.rU.qq.size,fun w' ec mQ hb=>ad w' _ ec (F.le_trans hle mQ) hb,fun b lh sM cy fT=>?_⟩
      rw[su _ (Gk _ _ cy)]at fT
      have:=ap _ _ fT
      (first|omega|(simp;omega))
     .obtain⟨C,D5,pl,Ea,cR,b7,fF,gx,mz,yB,w_⟩:=h.rU.BP q j y ax av (other q j ax zh aa) nF A4 vX
      refine⟨C,D5,pl,Ea,cR,b7,hle _ _ fF,?_,mz,fun w' ec mQ hb=>yB w' ec (F.le_trans hle mQ) hb,fun b lh sM cy fT=>?_⟩
      .rw[<-gx];exact Kt (Hc gx)
      .rw[su _ (Gk _ _ cy)]at fT
       exact w_ b lh sM cy fT
    .intro c6 zz cO aN pl sK lV vW bp J U lX gQ
     by_cases aD:c6=p
     .subst aD
      rw[aC]at lV;simp at lV;subst lV
      rw[GC]at lX;simp at lX;subst lX
      rw[su _ (Gm cO aN vW (Ne.symm bp))]at gQ
      have:=ap _ _ gQ
      (first|omega|(simp;omega))
     .rw[su _ (Gm c6 zz lV aD)]at lX
      by_cases aJ:cO=p
      .subst aJ
       rw[aC]at vW;simp at vW;subst vW
       rw[GC]at gQ;simp at gQ;subst gQ
       have:=ap _ _ lX
       (first|omega|(simp;omega))
      .rw[su _ (Gm cO aN vW aJ)]at gQ
       exact h.rU.AK c6 zz cO aN pl sK lV vW bp J U lX gQ
    .intro q j ax nF aa
     rw[su _ (Gm q j ax (by rintro rfl;rw[aC]at ax;simp at ax;subst ax;exact aa ((so _).2 (.inr rfl))))]
     exact El q j ax nF aa
   .rename_i n au6 x aj
    split at fJ
    .rename_i v hv
     split at fJ
     .rename_i azU
      simp only[Option.some.injEq,Prod.ext_iff]at fJ
      obtain⟨aKG,ay'⟩:=kT.PM (hv:=[]) (by have:=cS.CA;simp only[yI,Bool.and_eq_true]at this;exact this.1.1.2) p i aC bd (by rw[aj];rfl)
      obtain⟨Nh,x_,s1,s2,iq,sO⟩:=cS.RJ c (p-c) I
      rw[show c+(p-c)=p from I]at s1 s2
      have Gk:(aa p)[x_.length]? =some (bX c).2:=by
       rw[s1,List.getElem?_append_right I,show x_.length-Nh.length=0 from I]
       exact pn.first cS h.last
      have ap:x_.length<i.back:=by
       rcases Nat.lt_or_ge x_.length i.back with ay|ay
       .exact ay
       .exfalso
        have ad:(gC bQ p++[])[i.back-1]? =some (x_[i.back-1]'I):=by
         rw[List.append_nil,s2,List.getElem?_append_left I]
         simp[show i.back-1<x_.length from I]
        obtain⟨r,dL,fQ,mN⟩:=sO _ (List.getElem_mem (I:i.back-1<x_.length))
        exact h.post r _ dL fQ mN (jx _ (ay' _ ad))
      have aA:=RA azU x_.length _ ap Gk
      have ay4:aW (bX p).1 x=aW tc x:=by
       have:=Cr b6
       rw[aj]at this
       exact(this x (by simp[X.q5])).symm
      rw[ay4]at aA
      have bB:gZ P aQ o.op=some (.load n au6 x):=by
       rcases AJ ai with⟨z,mF,bB⟩|⟨z,mF,bB⟩|bB
       .rw[<-ex,aj]at mF;simp at mF
       .rw[<-ex,aj]at mF;simp at mF
       .rw[<-ex,aj]at bB;exact bB
      obtain⟨fk,aJ5,mf,hh,mK,Kn⟩:=awS bB
      obtain⟨v',hj,e,ak,kg⟩:=Ha h.rU.qq.rel hh mK (he _ _ Kn) aA
      have fQ:(execOp a.eval o).run P w= .ok (.value v') w:=by simp[execOp,mf,e,Instr.loadAt,Instr.sureAddr,ak]
      rw[fQ,Oper.upon_value]
      exact stay φ v v' w bd fJ.1.symm (F.le_refl φ) kg (SX (by rw[aj];simp)) El
     .simp at fJ
    .simp at fJ
   .simp at fJ
  .rename_i hw
   have hw:nX (bX p).1 i.o.g=false:=by simpa using hw
   rw[GK,hw]
   simp only[Bool.false_eq_true,if_false]
   simp only[Option.some.injEq,Prod.ext_iff]at fJ
   exact stay φ .undef Go.undef w bd fJ.1.symm (F.le_refl φ) .undef (h.rU.mono fun q j x ax av aa nF RK vX=>by
    refine other q j ax ?_ aa
    rintro rfl
    rw[aC]at ax;simp at ax;subst ax
    rw[hw]at vX;simp at vX) El
 |true=>
  have PO:∀(q:Nat) (j:dg),c<=q->q<c+(p-c)->bQ[q]? =some j->j.f_=false/\S j.idx/\Live eb q j:=by
   intro q j J U ax
   have K':=jx _ ((cS.pair (I:q<p) ax aC).2.2.2.2 bd)
   have nF:j.f_=false:=by
    cases nF:j.f_ with
    |false=>rfl
    |true=>exact absurd K' (h.post q j J ax nF)
   exact⟨nF,K',cS.SY h.closed h.D' ax nF K'⟩
  have aA:=h.rU.reach cS uA (p-c) I PO
  rw[show c+(p-c)=p from I]at aA
  rcases tl with A9|⟨aCl,lL,hN,aLU,iK,_,aAG⟩
  rotate_left
  .have aAH:=axr (t₂:=tc) (fun x aj=>(b6 x aj).symm) aAG
   have key:=FZ (K:=K) (Q:=Q) aA.qq.rel KD h.xd Rp hm lA aAH (fun cz a' w' v' fC Dh ga=>by
    refine p3 p aCl lL hN iK cz a' w' v' (aA.qq.trans fC) (h.dG.lost Dh) ga)
   split
   .rename_i hw;rw[if_pos hw]at key;exact .inl key
   .rename_i hw;rw[if_neg hw]at key;exact key
  have fJ:=cS.run.Kd p i aC A9 bd
  obtain⟨v,hv,aAY⟩:=axq (t₂:=tc) (t':=(bX (p+1)).1) (σ':=(bX (p+1)).2) (fun x aj=>(b6 x aj).symm) fJ
  have key:=FZ (K:=K) (Q:=Q) aA.qq.rel KD h.xd Rp hm lA aAY (fun cz a' w' fC Dh=>by
   refine jI (p+1) cz _ a' w' ⟨Qd,cS.Nj h.dG aC hv Q7,Dh,I,?_,?_,.inr ⟨i,p,rfl,aC,bd⟩,⟨aA.qq.trans fC,Nat.le_trans aA.room fC.next,?_,?_⟩,?_,fun hj k v hN e=>TD hj k v hN e A9⟩
   .intro q j av ax
    refine(so _).2 ?_
    rcases Nat.lt_or_ge q c with J|J
    .exact .inl (h.pre q j J ax)
    .rcases Nat.lt_or_ge q p with U|U
     .exact .inl (PO q j J I ax).2.1
     .have:q=p:=I
      subst this
      rw[aC]at ax;simp at ax;subst ax
      exact .inr rfl
   .intro q j av ax nF aa
    exact h.post q j I ax nF (other q j ax I aa)
   .intro q j y ax av aa nF A4 vX
    obtain⟨C,D5,pl,Ea,cR,b7,fF,gx,mz,yB,w_⟩:=aA.BP q j y ax I (other q j ax I aa) nF A4 vX
    have ap:=Hc gx
    have qU:¬wZ φ (bX p).2 pl.b4:=by
     rintro⟨b,B,sM,cy,_,fT,e⟩
     exact w_ b B sM cy fT e
    refine⟨C,D5,pl,Ea,cR,b7,fC.ext _ _ fF,?_,mz,fun h1 ec mQ sA=>yB h1 ec (F.le_trans fC.ext mQ) sA,fun b lh sM cy fT=>?_⟩
    .rw[fC.j4 _ ap qU];exact gx
    .rcases Nat.lt_or_ge b (bX p).2.next with ad|ad
     .obtain⟨ub,JY,_⟩:=fC.back b lh cy ad
      obtain⟨cO,sv,_⟩:=aA.qq.rel.kc b ub JY
      have:=fC.ext _ _ sv
      rw[this]at fT;simp at fT;subst fT
      exact w_ b ub _ JY sv
     .intro e
      rcases fC.xn sM.b4 ⟨b,lh,sM,cy,fC.fresh b lh cy ad,fT,rfl⟩with aV|aV
      .rw[e]at aV;exact qU aV
      .omega
   .intro c6 zz cO aN pl sK lV vW bp J U lX gQ
    have back:∀(q:Nat) (j:dg) pl,bQ[q]? =some j->cz (base+j.idx)=some pl->φ (base+j.idx)=some pl:=by
     intro q j pl ax lX
     cases Sw:φ (base+j.idx)with
     |none=>
      have KK:=Gn j (List.mem_of_getElem? ax)
      have:=fC.old _ Sw (by have:=aA.room;omega)
      rw[this]at lX;simp at lX
     |some Mi=>
      have:=fC.ext _ _ Sw
      rw[this]at lX;exact lX
    exact aA.AK c6 zz cO aN pl sK lV vW bp I I (back c6 zz pl lV lX) (back cO aN sK vW gQ)
   .intro q j ax nF aa
    have KK:=Gn j (List.mem_of_getElem? ax)
    exact fC.old _ (El q j ax nF aa) (by have:=aA.room;omega))
  split
  .rename_i hw;rw[if_pos hw]at key;exact .inl key
  .rename_i hw;rw[if_neg hw]at key;exact key
end
end
section
section
variable{P:Program}{aQ:List Nat}{cW:Nat}{ops:Array Oper}{M:List Nat}{bQ:List dg}{m:iV}{call:Call}{base:Nat}{eb:uf}{bX:Nat->T V×H}{aa:Nat->List H}
variable{j':F}{σ0:H}{w0:World}
theorem mem_ready{listed:Array Bool}(hh:listed.size=ops.size){k:Nat}:k∈Region.ready .any ops listed↔ ∃o,ops[k]? =some o/\¬listed[k]? =some true/\∀p∈sL o,listed[p]? =some true:=by
 have Da:∀j,listed.getD j false=true↔listed[j]? =some true:=by
  intro j
  rw[Array.getD_eq_getD_getElem?]
  cases listed[j]? with
  |none=>simp
  |some b=>simp
 simp only[Region.ready,List.mem_filter,List.mem_range,Bool.and_eq_true]
 constructor
 .rintro⟨ah,J,U⟩
  have gP:ops[k]? =some ops[k]:=by simp[ah]
  refine⟨ops[k],gP,?_,?_⟩
  .intro e
   rw[Array.getD_eq_getD_getElem?,e]at J
   simp at J
  .intro p aB
   rw[gP]at U
   simp only[Option.map_some,Option.getD_some,Array.all_eq_true_iff_forall_mem]at U
   simp only[sL,List.mem_map,List.mem_filter]at aB
   obtain⟨e,⟨he,ad⟩,rfl⟩:=aB
   have:=U e (by simpa using he)
   rw[ad]at this
   simp only[Bool.not_true,Bool.false_or]at this
   exact(Da _).1 this
 .rintro⟨o,au,J,U⟩
  have ah:k<ops.size:=by
   rcases Nat.lt_or_ge k ops.size with ay|ay
   .exact ay
   .simp[Array.getElem?_eq_none ay]at au
  refine⟨ah,?_,?_⟩
  .rw[Array.getD_eq_getD_getElem?]
   have:listed[k]? =some listed[k]:=by simp[hh,ah]
   rw[this]at J |-
   simpa using J
  .rw[au]
   simp only[Option.map_some,Option.getD_some,Array.all_eq_true_iff_forall_mem]
   intro e he
   cases ad:Region.binds .any e with
   |false=>rfl
   |true=>
    simp only[Bool.not_true,Bool.false_or]
    exact(Da _).2 (U e.on (List.mem_map.2 ⟨e,List.mem_filter.2 ⟨by simpa using he,ad⟩,rfl⟩))
theorem aeJ(cS:kT P aQ cW ops M bQ m call base eb bX aa){listed:Array Bool}(hh:listed.size=ops.size)(h:Region.ready .any ops listed=[]):∀k,k<ops.size->listed[k]? =some true:=by
 intro k
 induction k using Nat.strongRecOn with
 |_ k c0=>
  intro ah
  by_cases aA:listed[k]? =some true
  .exact aA
  .exfalso
   have gP:ops[k]? =some ops[k]:=by simp[ah]
   have:=(mem_ready (k:=k) hh).2 ⟨ops[k],gP,aA,fun p aB=>by
    have ap:=(Jm cS.s8 k ops[k] (by simp[gP])).2 p aB
    exact c0 p I I⟩
   rw[h]at this;simp at this
theorem avj(cS:kT P aQ cW ops M bQ m call base eb bX aa)(uA:σ0.next=base)(hm:rq P m)(lA:rj P aQ call)(Kz:nZ j' aQ){ds:List Deferred}{Q:Exit->Act->World->Prop}
 (bO:eb=none->∀cz a' w',cM j' σ0 w0 cz (bX bQ.length).2 w'->jT cz cW ds (bX bQ.length).1 a'->Q .normal a' w')
 (p3:∀(hj k:Nat) v hN,eb=some (hj,k,v,hN)->∀cz a' w' v',cM j' σ0 w0 cz hN w'->jT cz cW ds (wP (bX 0).1 bQ) a'->cu cz v v'->Q (.panic [{v:=v',recovered:=false}]) a' w'):∀(gM:Nat) (listed:Array Bool),listed.size=ops.size->listed.toList.count false<=gM->∀{c:Nat} {φ:F} {tc:T V} {a:Act} {w:World},
  yr P aQ cW ds ops bQ base eb bX j' σ0 w0 (fun k=>listed[k]? =some true) c φ tc a w->wpAny P .any ops Q gM listed a w:=by
 have fin:∀(listed:Array Bool),listed.size=ops.size->∀{c:Nat} {φ:F} {tc:T V} {a:Act} {w:World},yr P aQ cW ds ops bQ base eb bX j' σ0 w0 (fun k=>listed[k]? =some true) c φ tc a w->Region.ready .any ops listed=[]->Q .normal a w:=by
  intro listed hh c φ tc a w h ak
  obtain⟨J,U⟩:=h.done cS uA fun p i aC=>aeJ cS hh ak _ (cS.all.2.1 i (List.mem_of_getElem? aC))
  have iK:eb=none:=by
   cases iK:eb with
   |none=>rfl
   |some q=>
    obtain⟨hj,k,v,hN⟩:=q
    obtain⟨ip,t',cR,b7,fF,gx⟩:=cS.run.fN hj k v hN iK
    have ap:=cS.all.2.1 ip (List.mem_of_getElem? cR)
    rw[b7]at ap
    exact absurd (aeJ cS hh ak k ap) (h.D' hj k v hN iK)
  exact bO iK _ _ _ J U
 intro gM
 induction gM with
 |zero=>
  intro listed hh azn c φ tc a w h
  have lQ:∀k,k<ops.size->listed[k]? =some true:=by
   intro k ah
   have gg:k<listed.size:=I
   have:listed[k]? =some listed[k]:=by simp[gg]
   rw[this]
   have a5:List.count false listed.toList=0:=I
   have:=(List.count_eq_zero.1 a5)
   cases ad:listed[k]with
   |true=>rfl
   |false=>exact absurd (by rw[<-ad];simp) this
  have ak:Region.ready .any ops listed=[]:=by
   cases ak:Region.ready .any ops listed with
   |nil=>rfl
   |cons x xs=>
    obtain⟨o,au,J,_⟩:=(mem_ready hh).1 (by rw[ak];exact List.mem_cons_self:x∈Region.ready .any ops listed)
    exact absurd (lQ x (by
     rcases Nat.lt_or_ge x ops.size with ay|ay
     .exact ay
     .simp[Array.getElem?_eq_none ay]at au)) J
  exact⟨ak,fin listed hh h ak⟩
 |succ gM c0=>
  intro listed hh azn c φ tc a w h
  refine⟨fin listed hh h,fun k ah=>?_⟩
  obtain⟨o,au,J,U⟩:=(mem_ready hh).1 ah
  have ah:k<ops.size:=by
   rcases Nat.lt_or_ge k ops.size with ay|ay
   .exact ay
   .simp[Array.getElem?_eq_none ay]at au
  obtain⟨p,i,aC,rfl⟩:=cS.all.2.2 k ah
  have gg:i.idx<listed.size:=I
  have hold:listed[i.idx]=false:=by
   cases ad:listed[i.idx]with
   |false=>rfl
   |true=>exact absurd (by rw[<-ad];simp[gg]) J
  refine h.step cS uA hm lA Kz aC au J U (S':=fun k=>(listed.setIfInBounds i.idx true)[k]? =some true) ?_ p3 ?_
  .intro k
   rw[Array.getElem?_setIfInBounds]
   by_cases e:i.idx=k
   .subst e;simp[gg]
   .rw[if_neg e]
    constructor
    .exact .inl
    .rintro(h|h)
     .exact h
     .exact absurd h.symm e
  .intro c' cz asv a' w' ay
   refine c0 _ (by simp[hh]) ?_ ay
   rw[Array.toList_setIfInBounds,List.count_set (by simpa using gg)]
   have rI:0<List.count false listed.toList:=List.count_pos_iff.2 (by rw[<-hold];simp)
   simp[hold]
   have:List.count false listed.toList=Array.count false listed:=aM
   omega
theorem aLI(σ:H)(n b:Nat):(σ.room n).get b=σ.get b:=rfl
theorem cM.room{φ:F}{σ:H}{w w':World}(h:Rel φ σ w)(n:Nat)(e:w'.heap=w.heap)(aD:w'.os=w.os)(aJ:w'.output=w.output):cM φ σ w φ (σ.room n) w':=by
 have aa:=cM.same h e aD aJ
 refine⟨⟨aa.rel.kc,aa.rel.inj,fun b p aB=>?_⟩,aa.ext,aa.j4,aa.xn,aa.size,aa.os,aa.out,?_,aa.old,aa.back,aa.fresh⟩
 .obtain⟨J,U⟩:=aa.rel.kY b p aB
  exact⟨by simp only[H.room];omega,U⟩
 .simp only[H.room];omega
theorem aw4{φ:F}{σ:H}{w:World}{t:T V}{a:Act}{ds:List Deferred}(rJ:P.follows .mixedOrders=true)(af:Js P aQ cW ops=some bQ)(h:Rel φ σ w)(aw:nZ φ aQ)(a3:jT φ cW ds t a)(hm:rq P m)(lA:rj P aQ call){gb:kl}
 (aa:sm m call σ.next bQ t (σ.room bQ.length) [σ.room bQ.length]=some gb) {Q:Exit->Act->World->Prop}
 (bO:w1 φ cW ds σ w (Q .normal) Q (match gb with| .ok t' σ'=>.ok t' σ'| .fN v _ σ'=>.fN v (wP t bQ) σ')) (id:Nat):(Code.region id ops true).wp P Q a w:=by
 unfold Js at af
 split at af
 .simp at af
 .rename_i xs aBt
  split at af
  case isFalse=>simp at af
  rename_i azh
  simp only[Option.some.injEq]at af
  obtain⟨eb,bX,cs,a5,J,aq,U⟩:=SE aa
  have cS:kT P aQ cW ops (By ops) bQ m call σ.next eb bX cs:=by
   refine⟨by rw[<-af];exact azh,fun i aC=>?_,fun i aC=>?_,aq,by rw[J,a5]⟩
   .rw[<-af]at aC
    obtain⟨aK,bx⟩:=GV aC
    obtain⟨o,au,Kn⟩:=T6 aBt _ _ aK
    exact⟨o,by simpa using au,Kn⟩
   .rw[<-af]at aC
    exact(GV aC).2
  refine wp_region_any rJ ?_
  have fC:cM φ σ w φ (σ.room bQ.length) {w with drawn:=w.drawn+1}:=cM.room h _ rfl rfl rfl
  have hlen:=cS.all.1
  have none:∀i:dg,φ (σ.next+i.idx)=none:=by
   intro i
   cases aB:φ (σ.next+i.idx)with
   |none=>rfl
   |some p=>
    have:=(h.kY _ _ aB).1
    omega
  refine avj (c:=0) (φ:=φ) (tc:=t) (base:=σ.next) (ds:=ds) cS rfl hm lA aw (w0:=w) (σ0:=σ) ?_ ?_ ops.size _ aM aM ?_
  .intro iK
   cases gb with
   |ok t' σ'=>
    have e:=U.2
    rw[e];exact bO
   |fN v t' σ'=>
    obtain⟨hj,k,e⟩:=U
    rw[iK]at e;simp at e
  .intro hj k v hN iK
   cases gb with
   |ok t' σ'=>
    have e:=U.1
    rw[iK]at e;simp at e
   |fN v' t' σ'=>
    obtain⟨aEL,a9,e⟩:=U
    rw[iK]at e;simp at e
    obtain⟨rfl,rfl,rfl,rfl⟩:=e
    rw[a5];exact bO
  have no:∀k:Nat,¬(Array.replicate ops.size false)[k]? =some true:=by
   intro k
   rw[Array.getElem?_replicate]
   split<;>simp
  refine⟨fun k o _ aa=>absurd aa (no k),⟨?_,?_⟩,a3,Nat.zero_le _,fun p i aB=>I,fun p i _ _ _=>no _,.inl rfl,⟨by rw[a5];exact fC,by rw[a5];simp[H.room],fun p i x _ _ aa=>absurd aa (no _),fun p i q j pl sK _ _ _ _ _ aB=>by rw[none i]at aB;simp at aB⟩,fun p i _ _ _=>none i,fun hj k v hN _=>no k⟩
  .rintro p i d aC ⟨j,ax,aa⟩
   exact absurd aa (no _)
  .intro x _
   rw[a5]
end
end
section
def C.bad:C:=.cond (.c .undef) .skip .skip
def Jr(aQ:List Nat)(cW:Nat)(ops:Array Oper):Option (Option Nat×FuncId×List aG):=
 match ops.toList with
 |[o]=>match o.op,o.guard with
  | .defer ⟨.value (.func f),args,_⟩,none=>match AI aQ args with
    |some l=>if yL cW o.dst=true then some (o.dst,f,l)else none
    |none=>none
  |_,_=>none
 |_=>none
def l9(P:Program)(aQ:List Nat)(cW:Nat):Code->C
 | .skip=>.skip
 | .label _=>.skip
 | .region _ ops false=>match Jr aQ cW ops with
   |some d=>.oz d.1 d.2.1 d.2.2
   |none=>match mr (us P aQ cW ops) ops.toList with
    |some l=>.ao l
    |none=>.bad
 | .region _ ops true=>match Js P aQ cW ops with
   |some l=>.draw l
   |none=>.bad
 | .seq a b=>.seq (l9 P aQ cW a) (l9 P aQ cW b)
 | .cond c a b=>match eS aQ c with
   |some c=>.cond c (l9 P aQ cW a) (l9 P aQ cW b)
   |none=>.bad
 | .block id c=>.block id (l9 P aQ cW c)
 | .loop c=>.loop (l9 P aQ cW c)
 | .exit id=>.exit id
 | .ret=>.ret
 |_=>.bad
def yJ(P:Program):ResultVar->Option vq
 | .tmp t=>some (.tmp t)
 | .cell a t=>match jQ P t,se P t with
   |some n,some g=>some (.cell a n g)
   |_,_=>none
def aeE(P:Program)(aQ:List Nat)(cW:Nat):Code->Option (Option Nat×Op×Code)
 | .seq (.region _ ops false) rest=>match ops.toList with
   |[o,hY]=>match o.op,o.guard,us P aQ cW ops hY with
    | .call ⟨.builtin .recover,args,_⟩,none,some x=>if args.toList.isEmpty&&yL cW o.dst then some (o.dst,x,rest)else none
    |_,_,_=>none
   |_=>none
 |_=>none
def AH(P:Program)(aQ:List Nat)(fn:Func):Option bn:=
 if fn.name== "runtime.NumGoroutine" then none else
 match fn.body,mr (yJ P) fn.results.toList with
 |some c,some z4=>match aeE P aQ fn.ntmps c with
  |some p=>some ⟨z4,.seq (.ao [p.2.1]) (l9 P aQ fn.ntmps p.2.2),some p.1⟩
  |none=>some ⟨z4,l9 P aQ fn.ntmps c,none⟩
 |_,_=>none
def qz(φ:F):List qy->List Deferred->Prop
 |[],[]=>True
 |d::r,yK::r'=>(∃args',yK=⟨.fn (.func d.1) #[],⟨args'⟩⟩/\eD φ d.2 args')/\qz φ r r'
 |_,_=>False
theorem qz.mono{φ ec:F}(hle:φ.le ec):∀{l:List qy} {l':List Deferred},qz φ l l'->qz ec l l'
 |[],[],_=>trivial
 |d::r,yK::r',h=>by
  obtain⟨⟨args',e,hv⟩,ak⟩:=h
  exact⟨⟨args',e,hv.mono hle⟩,qz.mono hle ak⟩
 |[],_::_,h=>h.elim
 |_::_,[],h=>h.elim
def qA(φ:F):vj->Exit->Prop
 | .normal,e=>e= .normal
 | .exit id,e=>e= .exit id
 | .ret,e=>e= .ret
 | .fN v,e=>∃v',cu φ v v'/\e= .panic [{v:=v',recovered:=false}]
def Am(φ:F)(cW:Nat)(σ:H)(w:World)(o:Out)(Q:Exit->Act->World->Prop):Prop:=
 ∀cz a' w' gK e,cM φ σ w cz o.σ w'->qz cz o.ds gK->jT cz cW gK o.t a'->qA cz o.x e->Q e a' w'
section
variable{P:Program}{aQ:List Nat}{cW:Nat}{m:iV}{call:Call}
theorem Am.after{φ B_:F}{σ σ1:H}{w dA:World}{o:Out}{Q:Exit->Act->World->Prop}(h:Am φ cW σ w o Q)(aa:cM φ σ w B_ σ1 dA):Am B_ cW σ1 dA o Q:=fun cz a' w' gK e J U aq aK=>h cz a' w' gK e (aa.trans J) U aq aK
theorem awR{aQ:List Nat}{ops:Array Oper}{d:Option Nat×FuncId×List aG}(h:Jr aQ cW ops=some d):
 ∃o args bM,ops.toList=[o]/\o.op= .defer ⟨.value (.func d.2.1),args,bM⟩/\o.guard=none/\AI aQ args=some d.2.2/\yL cW o.dst=true/\o.dst=d.1:=by
 unfold Jr at h
 split at h
 .rename_i o au
  split at h
  .rename_i f args bM J U
   split at h
   .rename_i l aA
    split at h
    .rename_i aH
     simp at h;subst h
     exact⟨o,args,bM,au,J,U,aA,aH,rfl⟩
    .simp at h
   .simp at h
  .simp at h
 .simp at h
theorem FO{call:Call}{gM:Nat}{cP:C}{t:T V}{ds:List qy}{σ:H}{o:Out}(aj:cP.plain= .bad)(aa:hT m call gM cP t ds σ=some o):False:=by
 unfold C.bad at aj
 cases cP<;>simp[C.plain]at aj
 obtain⟨rfl,_,_⟩:=aj
 simp[hT,aW]at aa
theorem Jq(rJ:P.follows .mixedOrders=true)(hm:rq P m)(lA:rj P aQ call)(gM:Nat):∀{c:Code} {cP:C} {φ:F} {σ:H} {w:World} {t:T V} {ds:List qy} {gK:List Deferred} {a:Act} {o:Out} {Q:Exit->Act->World->Prop},
 cP.plain=l9 P aQ cW c->Rel φ σ w->nZ φ aQ->qz φ ds gK->jT φ cW gK t a->hT m call gM cP t ds σ=some o->Am φ cW σ w o Q->c.wp P Q a w:=by
 intro c
 induction c with
 |skip=>
  intro cP φ σ w t ds gK a o Q aj h aw aH a3 aa bO
  simp only[l9]at aj
  cases cP<;>simp[C.plain]at aj
  (try subst aj)
  simp[hT]at aa;subst aa
  exact wp_skip (bO _ _ _ _ _ (cM.refl h) aH a3 rfl)
 |label l=>
  intro cP φ σ w t ds gK a o Q aj h aw aH a3 aa bO
  simp only[l9]at aj
  cases cP<;>simp[C.plain]at aj
  (try subst aj)
  simp[hT]at aa;subst aa
  exact wp_label (bO _ _ _ _ _ (cM.refl h) aH a3 rfl)
 |region id ops draw=>
  intro cP φ σ w t ds gK a o Q aj h aw aH a3 aa bO
  cases draw with
  |false=>
   simp only[l9]at aj
   split at aj
   .rename_i d hf
    obtain⟨op,args,bM,aD,aJ,bP,g0,iX,m5⟩:=awR hf
    cases cP<;>simp[C.plain]at aj
    obtain⟨rfl,rfl,rfl⟩:=aj
    simp[hT]at aa;subst aa
    have g1:=BL (FY a3.rel aw) g0
    have azu:(#[]:Array Value)++args.map a.eval=⟨args.toList.map a.eval⟩:=by apply Array.toList_inj.1;simp
    have ak:(execOp a.eval op).run P w= .ok (.defer ⟨.fn (.func d.2.1) #[],⟨args.toList.map a.eval⟩⟩) w:=by
     have AM:a.eval (.func d.2.1)= .func (.func d.2.1) #[] #[]:=rfl
     simp only[execOp,aJ,resolve,AM,Deferred.ofValue,azu]
     simp only[Sem.run_bind,Sem.run_pure,Result.andThen_ok]
    have key:wpList P ops Q ops.toList a w:=by
     rw[aD]
     simp only[wpList]
     have hw:Region.wanted op (yielded ops a.tmps)=true:=by simp[Region.wanted,bP]
     rw[if_pos hw]
     refine .inl ?_
     unfold Oper.wp
     rw[ak,Oper.upon_defer]
     refine bO φ _ w (⟨.fn (.func d.2.1) #[],⟨args.toList.map a.eval⟩⟩::gK) _ (cM.refl h) ⟨⟨_,rfl,g1⟩,aH⟩ ?_ rfl
     have F7:jT φ cW (⟨.fn (.func d.2.1) #[],⟨args.toList.map a.eval⟩⟩::gK) t {a with defers:=⟨.fn (.func d.2.1) #[],⟨args.toList.map a.eval⟩⟩::a.defers}:=⟨a3.rel,a3.size,by rw[a3.defers]⟩
     have:=F7.put (d:=op.dst) iX (v:=.undef) (v':=Go.undef) .undef
     rw[m5]at this |-
     exact this
    exact wp_region_list key
   .split at aj
    case h_2=>exact(FO aj aa).elim
    rename_i l aA
    cases cP<;>simp[C.plain]at aj
    subst aj
    simp only[hT]at aa
    obtain⟨gb,aB,rfl⟩:=eY aa
    refine wp_region_list (QL (Q:=Q) hm lA aA h aw a3 aB ?_)
    cases gb with
    |ok t' σ'=>exact fun cz a' w' J U=>bO cz a' w' gK _ J (aH.mono J.ext) U rfl
    |fN v t' σ'=>exact fun cz a' w' v' J U aq=>bO cz a' w' gK _ J (aH.mono J.ext) U ⟨v',aq,rfl⟩
  |true=>
   simp only[l9]at aj
   split at aj
   case h_2=>exact(FO aj aa).elim
   rename_i l aA
   cases cP<;>simp[C.plain]at aj
   subst aj
   simp only[hT]at aa
   obtain⟨gb,aB,rfl⟩:=eY aa
   refine aw4 rJ aA h aw a3 hm lA aB ?_ id
   cases gb with
   |ok t' σ'=>exact fun cz a' w' J U=>bO cz a' w' gK _ J (aH.mono J.ext) U rfl
   |fN v t' σ'=>exact fun cz a' w' v' J U aq=>bO cz a' w' gK _ J (aH.mono J.ext) U ⟨v',aq,rfl⟩
 |seq x y GQ Lp=>
  intro cP φ σ w t ds gK a o Q aj h aw aH a3 aa bO
  simp only[l9]at aj
  cases cP<;>simp only[C.plain,C.seq.injEq,reduceCtorEq]at aj
  rename_i aJv aP
  obtain⟨zu,o9⟩:=aj
  simp only[hT]at aa
  refine wp_seq ?_
  split at aa
  .rename_i t' rC σ' nh
   refine GQ zu h aw aH a3 nh fun cz a' w' ps e J U aq aK=>?_
   simp only[qA]at aK;subst aK
   exact Lp o9 J.rel (aw.mono J.ext) U aq aa (bO.after J)
  .rename_i bp
   refine GQ zu h aw aH a3 aa fun cz a' w' ps e J U aq aK=>?_
   have:=bO cz a' w' ps e J U aq aK
   obtain⟨BN,oK,BF,BO⟩:=o
   cases BN with
   |normal=>exact absurd aa (bp oK BF BO)
   |exit id=>simp only[qA]at aK;subst aK;exact this
   |ret=>simp only[qA]at aK;subst aK;exact this
   |fN v=>obtain⟨v',_,rfl⟩:=aK;exact this
 |cond q x y GQ Lp=>
  intro cP φ σ w t ds gK a o Q aj h aw aH a3 aa bO
  simp only[l9]at aj
  split at aj
  .rename_i sM av
   cases cP<;>simp only[C.plain,C.cond.injEq,reduceCtorEq]at aj
   rename_i aMq aJv aP
   obtain⟨rfl,zu,o9⟩:=aj
   simp only[hT]at aa
   have hv:=FY a3.rel aw _ _ av
   split at aa
   .rename_i b ad
    rw[ad]at hv
    refine wp_cond hv.FP ?_
    cases b with
    |true=>exact GQ zu h aw aH a3 (by simpa using aa) bO
    |false=>exact Lp o9 h aw aH a3 (by simpa using aa) bO
   .simp at aa
  .exact(FO aj aa).elim
 |block id x c0=>
  intro cP φ σ w t ds gK a o Q aj h aw aH a3 aa bO
  simp only[l9]at aj
  cases cP<;>simp only[C.plain,C.block.injEq,reduceCtorEq]at aj
  obtain⟨rfl,zu⟩:=aj
  simp only[hT]at aa
  refine wp_block ?_
  split at aa
  .rename_i i t' rC σ' nh
   refine c0 zu h aw aH a3 nh fun cz a' w' ps e J U aq aK=>?_
   simp only[qA]at aK;subst aK
   simp only[Exit.inBlock]
   split at aa
   .rename_i e
    simp at aa;subst aa
    rw[if_pos e]
    exact bO cz a' w' ps _ J U aq rfl
   .rename_i e
    simp at aa;subst aa
    rw[if_neg e]
    exact bO cz a' w' ps _ J U aq rfl
  .rename_i bp
   refine c0 zu h aw aH a3 aa fun cz a' w' ps e J U aq aK=>?_
   have:=bO cz a' w' ps e J U aq aK
   obtain⟨BN,oK,BF,BO⟩:=o
   cases BN with
   |normal=>simp only[qA]at aK;subst aK;exact this
   |exit id=>exact absurd aa (bp id oK BF BO)
   |ret=>simp only[qA]at aK;subst aK;exact this
   |fN v=>obtain⟨v',_,rfl⟩:=aK;exact this
 |loop x c0=>
  intro cP φ σ w t ds gK a o Q aj h aw aH a3 aa bO
  simp only[l9]at aj
  have step:∀{eB:C},eB.plain=l9 P aQ cW x->∀{φ:F} {σ:H} {w:World} {t:T V} {ds:List qy} {gK:List Deferred} {a:Act} {o:Out},Rel φ σ w->nZ φ aQ->qz φ ds gK->jT φ cW gK t a->hT m call gM eB t ds σ=some o->
   ∀(n:Nat),(o.x≠ .normal->Am φ cW σ w o Q)->(o.x= .normal->∀cz a' w' ps,cM φ σ w cz o.σ w'->qz cz o.ds ps->jT cz cW ps o.t a'->Code.rounds P x Q n a' w')->Code.rounds P x Q (n+1) a w:=by
   intro eB nh φ σ w t ds gK a o h aw aH a3 aa n bO aF
   rw[rounds_succ]
   refine c0 nh h aw aH a3 aa fun cz a' w' ps e J U aq aK=>?_
   obtain⟨BN,oK,BF,BO⟩:=o
   cases BN with
   |normal=>simp only[qA]at aK;subst aK;exact aF rfl cz a' w' ps J U aq
   |exit id=>have:=bO aM cz a' w' ps e J U aq aK;simp only[qA]at aK;subst aK;exact this
   |ret=>have:=bO aM cz a' w' ps e J U aq aK;simp only[qA]at aK;subst aK;exact this
   |fN v=>have:=bO aM cz a' w' ps e J U aq aK;obtain⟨v',_,rfl⟩:=aK;exact this
  cases cP<;>simp only[C.plain,C.loop.injEq,reduceCtorEq]at aj
  case loop eB=>
   simp only[hT]at aa
   have key:∀n,∀{φ:F} {σ:H} {w:World} {t:T V} {ds:List qy} {gK:List Deferred} {a:Act},Rel φ σ w->nZ φ aQ->qz φ ds gK->jT φ cW gK t a->iter (hT m call gM eB) n t ds σ=some o->Am φ cW σ w o Q->Code.rounds P x Q n a w:=by
    intro n
    induction n with
    |zero=>intro φ σ w t ds gK a _ _ _ _ aa;simp[iter]at aa
    |succ n aBA=>
     intro φ σ w t ds gK a h aw aH a3 aa bO
     simp only[iter]at aa
     split at aa
     .rename_i t' rC σ' nh
      refine step aj h aw aH a3 nh n (fun bp=>absurd rfl bp) fun _ cz a' w' ps J U aq=>?_
      exact aBA J.rel (aw.mono J.ext) U aq aa (bO.after J)
     .rename_i bp
      refine step aj h aw aH a3 aa n (fun _=>bO) fun he=>?_
      exfalso
      obtain⟨BN,oK,BF,BO⟩:=o
      simp only at he;subst he
      exact bp oK BF BO aa
   exact wp_loop_rounds gM (key gM h aw aH a3 aa bO)
 |exit id=>
  intro cP φ σ w t ds gK a o Q aj h aw aH a3 aa bO
  simp only[l9]at aj
  cases cP<;>simp[C.plain]at aj
  (try subst aj)
  simp[hT]at aa;subst aa
  exact wp_exit (bO _ _ _ _ _ (cM.refl h) aH a3 rfl)
 |ret=>
  intro cP φ σ w t ds gK a o Q aj h aw aH a3 aa bO
  simp only[l9]at aj
  cases cP<;>simp[C.plain]at aj
  (try subst aj)
  simp[hT]at aa;subst aa
  exact wp_ret (bO _ _ _ _ _ (cM.refl h) aH a3 rfl)
 |_=>intro cP φ σ w t ds gK a o Q aj h aw aH a3 aa bO;exact(FO aj aa).elim
def BU(tmps:Array Value):ResultVar->Sem Value
 | .tmp t=>pure (tmps.getD t Go.undef)
 | .cell a t=>do loadVar t (<-asAddr (tmps.getD a Go.undef))
theorem aFV{φ:F}{σ:H}{w:World}{t:T V}{a:Act}(h:Rel φ σ w){gK:List Deferred}(a3:jT φ cW gK t a){r:ResultVar}{r':vq}(af:yJ P r=some r'){l:List vq}{vs:List V}(aa:pG t σ (r'::l)=some vs):
 ∃v pI v',vs=v::pI/\pG t σ l=some pI/\cu φ v v'/\(BU a.tmps r).run P w= .ok v' w:=by
 cases r with
 |tmp x=>
  simp[yJ]at af;subst af
  simp only[pG]at aa
  obtain⟨pI,DK,rfl⟩:=eY aa
  exact⟨_,pI,_,rfl,DK,a3.rel x,by simp only[BU];rfl⟩
 |cell x fk=>
  simp only[yJ]at af
  split at af
  .rename_i n g az j1
   simp at af;subst af
   simp only[pG]at aa
   split at aa
   .rename_i v hv
    obtain⟨pI,DK,rfl⟩:=eY aa
    have aj:cu φ (aW t (.t x)) (a.tmps.getD x Go.undef):=a3.rel x
    obtain⟨v',p,e,aA,kg⟩:=Ha h az j1 aj hv
    refine⟨v,pI,v',rfl,DK,kg,?_⟩
    simp only[BU,e]
    exact aA
   .simp at aa
  .simp at af
theorem aeK{φ:F}{σ:H}{w:World}{t:T V}{a:Act}(h:Rel φ σ w){gK:List Deferred}(a3:jT φ cW gK t a):∀{l:List ResultVar} {l':List vq},mr (yJ P) l=some l'->∀{vs:List V},pG t σ l'=some vs->
 ∃hy,eD φ vs hy/\(l.mapM (BU a.tmps)).run P w= .ok hy w
 |[],l',af,vs,aa=>by
  simp[mr]at af;subst af
  simp[pG]at aa;subst aa
  exact⟨[],.nil,rfl⟩
 |r::l,l',af,vs,aa=>by
  simp only[mr]at af
  split at af
  .rename_i r' z4 ak k5
   simp at af;subst af
   obtain⟨v,pI,v',rfl,DK,hv,hB⟩:=aFV h a3 ak aa
   obtain⟨yg,J,U⟩:=aeK h a3 k5 DK
   refine⟨v'::yg,.cons _ _ _ _ hv J,?_⟩
   rw[List.mapM_cons]
   simp[Sem.run_bind,Result.andThen_ok,hB,U]
  .simp at af
theorem M4{φ:F}{σ:H}{w:World}{t:T V}{a:Act}(h:Rel φ σ w){gK:List Deferred}(a3:jT φ cW gK t a){fn:Func}{l':List vq}(af:mr (yJ P) fn.results.toList=some l'){vs:List V}(aa:pG t σ l'=some vs):
 ∃v',cu φ (q7 vs) v'/\(results fn a.tmps).run P w= .ok v' w:=by
 obtain⟨hy,J,U⟩:=aeK h a3 af aa
 have e:(fn.results.mapM (BU a.tmps)).run P w= .ok hy.toArray w:=by
  rw[Array.mapM_eq_mapM_toList]
  simp only[Sem.run_map,U,Result.andThen_ok]
 have aJ:(results fn a.tmps).run P w= .ok (if h:hy.toArray.size=1 then hy.toArray[0]else .tuple hy.toArray) w:=by
  have:results fn a.tmps=(do let vs <-fn.results.mapM (BU a.tmps);pure (if h:vs.size=1 then vs[0]else .tuple vs)):=by
   unfold results
   congr 1
  rw[this]
  simp only[Sem.run_bind,e,Result.andThen_ok];rfl
 refine⟨_,?_,aJ⟩
 cases J with
 |nil=>exact .bN _ _ .nil
 |cons v v' l qf hv bg=>
  cases bg with
  |nil=>simpa[q7]using hv
  |cons u bj nK qg hu bg=>
   rw[dif_neg aM]
   exact .bN _ _ (.cons _ _ _ _ hv (.cons _ _ _ _ hu bg))
end
section
variable{P:Program}{aQ:List Nat}{m:iV}
def Fm(P:Program)(aQ:List Nat)(jn:FuncId->Option bn):Prop:=∀f fP,jn f=some fP->∃fn,P.funcs[f]? =some fn/\AH P aQ fn=some fP.plain
theorem Qg{fn:Func}{fP:bn}(h:AH P aQ fn=some fP):¬fn.name= "runtime.NumGoroutine" /\∃c,fn.body=some c/\mr (yJ P) fn.results.toList=some fP.j8/\
 ((fP.wH=none/\fP.body=l9 P aQ fn.ntmps c)\/∃id o hY x rest args bM,c= .seq (.region id #[o,hY] false) rest/\o.op= .call ⟨.builtin .recover,args,bM⟩/\args= #[]/\o.guard=none/\yL fn.ntmps o.dst=true/\us P aQ fn.ntmps #[o,hY] hY=some x/\fP.wH=some o.dst/\fP.body= .seq (.ao [x]) (l9 P aQ fn.ntmps rest)):=by
 unfold AH at h
 split at h
 .simp at h
 .rename_i aAw
  refine⟨by simpa using aAw,?_⟩
  split at h
  .rename_i c z4 vK k5
   split at h
   .rename_i p aB
    simp at h;subst h
    refine⟨c,vK,k5,.inr ?_⟩
    unfold aeE at aB
    split at aB
    .rename_i id ops rest
     split at aB
     .rename_i o hY au
      split at aB
      .rename_i args bM x J U aj
       split at aB
       .rename_i aq
        simp at aB;subst aB
        simp only[Bool.and_eq_true,List.isEmpty_iff]at aq
        have e:ops= #[o,hY]:=by apply Array.toList_inj.1;simpa using au
        subst e
        exact⟨id,o,hY,x,rest,args,bM,rfl,J,by apply Array.toList_inj.1;simpa using aq.1,U,aq.2,aj,rfl,rfl⟩
       .simp at aB
      .simp at aB
     .simp at aB
    .simp at aB
   .simp at h;subst h
    exact⟨c,vK,k5,.inl ⟨rfl,rfl⟩⟩
  .simp at h
theorem Po{φ:F}{args:List V}{args':List Value}{n:Nat}(g1:eD φ args args'):jT φ n [] (T.ofList .e 0 args) {tmps:=(⟨args'⟩:Array Value)++Array.replicate (n- (⟨args'⟩:Array Value).size) Go.undef,defers:=[]}:=by
 refine⟨fun i=>?_,by simp;omega,rfl⟩
 have aA:=g1.length
 simp only[aW,T.uw]
 rw[Array.getD_eq_getD_getElem?,Array.getElem?_append]
 by_cases aC:i<args.length
 .rw[if_pos I,if_pos (by simp;omega)]
  obtain⟨v',J,U⟩:=g1.get i args[i] (by simp[aC])
  simp[aC,J];exact U
 .rw[if_neg I,if_neg (by simp;omega)]
  simp only[T.get,Option.getD_none]
  exact .any _
def po(φ:F):Option V->FrameMode->Prop
 |none,m=>m= .returning
 |some v,m=>∃v',cu φ v v'/\m= .panicking [{v:=v',recovered:=false}]
theorem po.mono{φ ec:F}(hle:φ.le ec){u:Option V}{m:FrameMode}(h:po φ u m):po ec u m:=by
 cases u with
 |none=>exact h
 |some v=>obtain⟨v',hv,e⟩:=h;exact⟨v',hv.mono hle,e⟩
theorem po.settle{φ:F}{u:Option V}{m:FrameMode}(h:po φ u m):Go.settle m=m:=by
 cases u with
 |none=>cases h;rfl
 |some v=>obtain⟨v',hv,rfl⟩:=h;rfl
theorem po.run{φ:F}{u:Option V}{m:FrameMode}(h:po φ u m):m≠ .run:=by
 cases u with
 |none=>cases h;simp
 |some v=>obtain⟨v',hv,rfl⟩:=h;simp
theorem axe{o:Out}{p:T V×H}(h:o.ends=some p):(o.x= .normal\/o.x= .ret)/\o.ds=[]/\o.t=p.1/\o.σ=p.2:=by
 obtain⟨x,t,ds,σ⟩:=o
 unfold Out.ends at h
 split at h
 .rename_i e;cases e;simp at h;subst h;simp
 .rename_i e;cases e;simp at h;subst h;simp
 .simp at h
theorem aI_{φ:F}{σ:H}{w:World}{cW:Nat}{ds:List Deferred}{t:T V}{a:Act}(h:Rel φ σ w)(aw:nZ φ aQ)(a3:jT φ cW ds t a){ops:Array Oper}{o:Oper}{x:Op}(af:us P aQ cW ops o=some x)(hm:rq P m){call:Call}(lA:rj P aQ call)
 {gb:kl} (aa:km m call x t σ=some gb) {Q:Exit->Act->List Frame->World->Prop} {al:List Frame} {i:Nat} (aC:ops[i]? =some o) (jI:w1 φ cW ds σ w (fun a' w'=>Q .normal a' al w') (fun e a' w'=>Q e a' al w') gb):wpOpsS P ops Q [i] a al w:=by
 have key:=FZ (K:=fun a' w'=>Q .normal a' al w') (Q:=fun e a' w'=>Q e a' al w') h aw a3 af hm lA aa jI
 simp only[wpOpsS,aC]
 split
 .rename_i hw
  rw[if_pos hw]at key
  unfold Oper.wp at key
  split
  .rename_i w' ak
   rw[ak]at key
   exact key.elim
  .exact key
 .rename_i hw
  rw[if_neg hw]at key
  exact key
theorem av9(rJ:P.follows .mixedOrders=true)(hm:rq P m){jn:FuncId->Option bn}(bg:Fm P aQ jn)(gM:Nat){call:Call}(lA:rj P aQ call)
 {f:FuncId} {args:List V} {u u1:Option V} {σ σ1:H} (aa:Jh m jn call gM f args u σ=some (u1,σ1)) {φ:F} {w:World} {args':List Value} {md:FrameMode} (jB:Rel φ σ w) (aw:nZ φ aQ) (g1:eD φ args args') (hu:po φ u md):
 (callFunc f ⟨args'⟩).run P w= .ok (.enter f ⟨args'⟩) w/\CallsD P f ⟨args'⟩ md w fun e xY w'=>∃cz v,e= .returned v/\cM φ σ w cz σ1 w'/\po cz u1 (Go.settle xY):=by
 unfold Jh at aa
 split at aa
 .simp at aa
 rename_i fP Ky
 obtain⟨fn,bf,Kl⟩:=bg f fP Ky
 obtain⟨az,c,vK,k5,Dk⟩:=Qg Kl
 simp only[bn.plain]at k5 Dk
 refine⟨by simp[callFunc,go_sem,bf,az,vK],?_⟩
 split at aa
 .simp at aa
 rename_i p aB
 obtain⟨vs,gC,gQ⟩:=eY aa
 simp only[Prod.mk.injEq]at gQ
 obtain⟨zp,Sv⟩:=gQ
 obtain⟨o,au,azI⟩:=Option.bind_eq_some_iff.1 aB
 obtain⟨aj,Rv,rN,mi⟩:=axe azI
 have a3:=Po (n:=fn.ntmps) g1
 rcases Dk with⟨Bc,xv⟩|⟨id,op,uY,iT,rest,aFT,bM,rfl,aD,aJ,bP,g0,iX,Bc,xv⟩
 .rw[Bc]at au zp
  refine(callsD_of_wp (R:=fun e w'=>∃cz v,e= .returned v/\cM φ σ w cz σ1 w') bf vK ?_).mono ?_
  .refine Jq rJ hm lA gM xv jB aw (show qz φ [] []from trivial) a3 au ?_
   intro cz a' w' gK e J U aq aK
   rw[Rv]at U
   cases gK with
   |cons d gK=>exact U.elim
   |nil=>
    obtain⟨v',ga,ak⟩:=M4 (P:=P) J.rel aq k5 (vs:=vs) (by rw[rN,mi];exact gC)
    have fin:a'.defers=[]/\∃v,(results fn a'.tmps).run P w'= .ok v w'/\∃cz NG,Ending.returned v= .returned NG/\cM φ σ w cz σ1 w':=
     ⟨aq.defers,v',ak,cz,v',rfl,by rw[Sv,<-mi];exact J⟩
    rcases aj with aj|aj<;>rw[aj]at aK<;>simp only[qA]at aK<;>subst aK<;>exact fin
  .rintro e xY w' ⟨rfl,cz,v,rfl,fC⟩
   refine⟨cz,v,rfl,fC,?_⟩
   rw[hu.settle,zp]
   exact hu.mono fC.ext
 .rw[Bc]at au zp
  obtain⟨y,aBu,ij⟩:∃y,fP.body= .seq (.ao [iT]) y/\y.plain=l9 P aQ fn.ntmps rest:=by
   cases ad:fP.body<;>rw[ad]at xv<;>simp only[C.plain,C.seq.injEq,reduceCtorEq]at xv
   rename_i aJw aJx
   obtain⟨J,U⟩:=xv
   cases aJw<;>simp only[C.plain,C.ao.injEq,reduceCtorEq]at J
   subst J
   exact⟨aJx,rfl,U⟩
  rw[aBu]at au
  simp only at zp
  subst zp
  refine callsD_of_wpS bf vK ?_
  intro xi al Kq
  refine wpS_seq (wpS_region ?_)
  have aAQ:(execOp (Act.eval {tmps:=(⟨args'⟩:Array Value)++Array.replicate (fn.ntmps- (⟨args'⟩:Array Value).size) Go.undef,defers:=[]}) op).run P w= .ok .recover w:=by
   simp only[execOp,aD,aJ,resolve,invoke,builtin]
   rfl
  simp only[hT]at au
  have go:∀(tN:V) (Nb:Value) (xY:FrameMode) (eT:List Frame),tN=u.getD .jC->cu φ tN Nb->eT={xi with mode:=xY}::al->Go.settle xY= .returning->
   wpOpsS P #[op,uY] (Exit.thenS (rest.wpS P (bodyPostS P fn xi al fun e LU w'=>∃cz v,e= .returned v/\cM φ σ w cz σ1 w'/\po cz none (Go.settle LU))) (bodyPostS P fn xi al fun e LU w'=>∃cz v,e= .returned v/\cM φ σ w cz σ1 w'/\po cz none (Go.settle LU))) [1] (Act.put {tmps:=(⟨args'⟩:Array Value)++Array.replicate (fn.ntmps- (⟨args'⟩:Array Value).size) Go.undef,defers:=[]} op.dst Nb) eT w:=by
   intro tN Nb xY eT Bd kg cC aA0
   have F7:=a3.put g0 kg
   rw[Bd]at F7
   split at au
   rotate_left
   .exfalso
    rename_i bp
    obtain⟨gb,xL,dB⟩:=eY au
    have R':o.x= .normal\/o.x= .ret:=aj
    rw[dB]at R'
    cases gb with
    |ok t3 wW=>simp[kl.out]at dB;exact bp t3 [] wW (by rw[au,dB])
    |fN fm t3 wW=>simp[kl.out]at R'
   rename_i t3 aKe wW aAR
   obtain⟨gb,xL,dB⟩:=eY aAR
   simp only[vA]at xL
   split at xL
   rotate_left
   .exfalso
    rename_i bp
    cases gb with
    |ok t4 NT=>exact bp t4 NT xL
    |fN fm t4 NT=>simp[kl.out]at dB
   rename_i t4 NT DG
   simp only[Option.some.injEq]at xL
   subst xL
   simp only[kl.out,Out.mk.injEq,true_and]at dB
   obtain⟨rfl,rfl,rfl⟩:=dB
   refine aI_ jB aw F7 iX hm lA DG (i:=1) rfl ?_
   intro aJG fF hD sx ay3
   refine wpS_of_wp ?_
   refine Jq rJ hm lA gM ij sx.rel (aw.mono sx.ext) (show qz aJG [] []from trivial) ay3 au ?_
   intro cz a' w' gK e J U aq aK
   have J:=sx.trans J
   rw[Rv]at U
   cases gK with
   |cons d gK=>exact U.elim
   |nil=>
    obtain⟨v',ga,ak⟩:=M4 (P:=P) J.rel aq k5 (vs:=vs) (by rw[rN,mi];exact gC)
    have fin:a'.defers=[]/\∃bj,eT={xi with mode:=bj}::al/\∃v,(results fn a'.tmps).run P w'= .ok v w'/\∃cz NG,Ending.returned v= .returned NG/\cM φ σ w cz σ1 w'/\po cz none (Go.settle bj):=
     ⟨aq.defers,xY,cC,v',ak,cz,v',rfl,by rw[Sv,<-mi];exact J,aA0⟩
    rcases aj with aj|aj<;>rw[aj]at aK<;>simp only[qA]at aK<;>subst aK<;>exact fin
  have aAP:List.range (#[op,uY]:Array Oper).size=[0,1]:=rfl
  rw[aAP]
  have Lg:Region.wanted op (yielded #[op,uY] ((⟨args'⟩:Array Value)++Array.replicate (fn.ntmps- (⟨args'⟩:Array Value).size) Go.undef))=true:=by simp[Region.wanted,bP]
  have mf:∀(l:List Nat) (Q:Exit->Act->List Frame->World->Prop) (a:Act) (al:List Frame) (w:World),wpOpsS P #[op,uY] Q (0::l) a al w=(if Region.wanted op (yielded #[op,uY] a.tmps)then
   match(execOp a.eval op).run P w with
   | .ok .recover w'=>
     match recoverD al with
     |some (v,eT)=>wpOpsS P #[op,uY] Q l (a.put op.dst v) eT w'
     |none=>wpOpsS P #[op,uY] Q l (a.put op.dst .nilIface) al w'
   |r=>op.upon P a (fun a' w'=>wpOpsS P #[op,uY] Q l a' al w') (fun e a' w'=>Q e a' al w') r
   else wpOpsS P #[op,uY] Q l (a.put op.dst Go.undef) al w):=fun l Q a al w=>rfl
  rw[mf]
  simp only[Lg,if_true,aAQ]
  cases u with
  |none=>
   simp only[po]at hu
   have DF:recoverD (xi::al)=none:=by simp[recoverD,Kq,hu]
   simp only[DF]
   exact go .jC .nilIface .returning (xi::al) rfl .jC (by rw[<-hu,<-Kq]) rfl
  |some v=>
   obtain⟨v',hv,e6⟩:=hu
   have aA4:recoverD (xi::al)=some (v',{xi with mode:=.panicking [{v:=v',recovered:=true}]}::al):=by simp[recoverD,Kq,e6]
   simp only[aA4]
   exact go v v' (.panicking [{v:=v',recovered:=true}]) _ rfl hv rfl rfl
theorem M9(rJ:P.follows .mixedOrders=true)(hm:rq P m){jn:FuncId->Option bn}(bg:Fm P aQ jn)(gM:Nat){call:Call}(lA:rj P aQ call){fn:Func}{tmps:Array Value}{R:Ending->World->Prop}{u1:Option V}{σ1:H}:
 ∀{ds:List qy} {gK:List Deferred} {u:Option V} {σ:H} {φ:F} {w:World} {md:FrameMode},BW m jn call gM ds u σ=some (u1,σ1)->Rel φ σ w->nZ φ aQ->qz φ ds gK->po φ u md->
  (∀cz w',cM φ σ w cz σ1 w'->match u1 with|none=>∃v,(results fn tmps).run P w'= .ok v w'/\R (.returned v) w'|some v=>∀v',cu cz v v'->R (.panicked [{v:=v',recovered:=false}]) w')->Leaves P fn tmps R gK md w
 |[],[],u,σ,φ,w,md,aa,jB,aw,_,hu,vD=>by
  simp[BW]at aa
  obtain⟨rfl,rfl⟩:=aa
  have:=vD φ w (cM.refl jB)
  cases u with
  |none=>simp only[po]at hu;subst hu;exact this
  |some v=>obtain⟨v',hv,rfl⟩:=hu;exact this v' hv
 |d::ds,yK::gK,u,σ,φ,w,md,aa,jB,aw,aH,hu,vD=>by
  simp only[BW]at aa
  split at aa
  .rename_i p aB
   obtain⟨⟨args',rfl,g1⟩,qQ⟩:=aH
   obtain⟨Kv,Kk⟩:=av9 rJ hm bg gM lA (u1:=p.1) (σ1:=p.2) aB jB aw g1 hu
   refine leaves_cons hu.run ?_ (Kk.mono ?_)
   .simp only[invoke]
    have e:(⟨args'⟩:Array Value)++(#[]:Array Value)=⟨args'⟩:=by apply Array.toList_inj.1;simp
    rw[e];exact Kv
   .rintro e xY w' ⟨cz,v,rfl,fC,aBa⟩
    exact M9 rJ hm bg gM lA aa fC.rel (aw.mono fC.ext) (qQ.mono fC.ext) aBa fun Fa h1 U=>vD Fa h1 (fC.trans U)
  .simp at aa
 |[],_::_,_,_,_,_,_,_,_,_,aH,_,_=>aH.elim
 |_::_,[],_,_,_,_,_,_,_,_,aH,_,_=>aH.elim
theorem P6(rJ:P.follows .mixedOrders=true)(hm:rq P m){r3:Call}(nd:rj P aQ r3){jn:FuncId->Option bn}(bg:Fm P aQ jn)(gM:Nat):∀d,rj P aQ (ur m r3 jn gM d):=by
 intro d
 induction d with
 |zero=>intro f args σ r h;simp[ur]at h
 |succ d c0=>
  intro f args σ r h φ w args' jB aw g1
  simp only[ur]at h
  split at h
  .rename_i r' ak
   simp at h;subst h
   exact nd f args σ r' ak φ w args' jB aw g1
  split at h
  .simp at h
  rename_i fP Ky
  obtain⟨fn,bf,Kl⟩:=bg f fP Ky
  obtain⟨az,c,vK,k5,Dk⟩:=Qg Kl
  simp only[bn.plain]at k5 Dk
  refine⟨by simp[callFunc,go_sem,bf,az,vK],?_⟩
  split at h
  .simp at h
  rename_i Bc
  rcases Dk with⟨Sg,xv⟩|⟨id,op,uY,iT,rest,aFT,bM,rfl,aD,aJ,bP,g0,iX,Sg,xv⟩
  rotate_left
  .rw[Sg]at Bc;simp at Bc
  split at h
  .simp at h
  rename_i o au
  split at h
  .simp at h
  rename_i u hu
  refine calls_of_wp_defers bf vK ?_
  refine Jq rJ hm c0 gM xv jB aw (show qz φ [] []from trivial) (Po g1) au ?_
  intro cz a' w' gK e J U aq aK
  have key:∀md,po cz u md->Leaves P fn a'.tmps (Ch φ σ w r) a'.defers md w':=by
   intro md e6
   rw[aq.defers]
   split at h
   .rename_i σ' hB
    obtain⟨vs,gC,rfl⟩:=eY h
    refine M9 rJ hm bg gM c0 hB J.rel (aw.mono J.ext) U e6 fun Fa h1 mO=>?_
    have sA:=aq.mono mO.ext
    obtain⟨v',ga,ak⟩:=M4 (P:=P) mO.rel sA k5 gC
    exact⟨v',ak,v',Fa,rfl,J.trans mO,ga⟩
   .rename_i v σ' hB
    simp at h;subst h
    refine M9 rJ hm bg gM c0 hB J.rel (aw.mono J.ext) U e6 fun Fa h1 mO=>?_
    intro v' ga
    exact⟨v',Fa,rfl,J.trans mO,ga⟩
   .simp at h
  cases aj:o.x with
  |normal=>rw[aj]at aK hu;simp only[qA]at aK;subst aK;simp[vj.mode]at hu;subst hu;exact key .returning rfl
  |ret=>rw[aj]at aK hu;simp only[qA]at aK;subst aK;simp[vj.mode]at hu;subst hu;exact key .returning rfl
  |exit i=>rw[aj]at hu;simp[vj.mode]at hu
  |fN v=>
   rw[aj]at aK hu
   obtain⟨v',ga,rfl⟩:=aK
   simp[vj.mode]at hu;subst hu
   exact key _ ⟨v',ga,rfl⟩
end
end
def nj:List ((TypeId×String)×Cg)->iV
 |[],_,_=>none
 |p::l,t,n=>if p.1.1=t/\p.1.2=n then some p.2 else nj l t n
theorem LL{P:Program}:∀{l:List ((TypeId×String)×Cg)},(∀p∈l,Fi P p.1.1 p.1.2 p.2)->rq P (nj l)
 |[],_=>by intro t n f h;simp[nj]at h
 |p::l,aA=>by
  intro t n f h
  simp only[nj]at h
  split at h
  .rename_i e
   obtain⟨rfl,rfl⟩:=e
   simp at h;subst h
   exact aA p aM
  .exact LL (fun q av=>aA q (by simp[av])) t n f h
theorem Qz{P:Program}{t ft:TypeId}{name:String}(J:jQ P ft=some 1)(U:se P ft=some false)
 (aq:∀a w,(method (P.types.size+Made.depth) t (.pointer (some a)) name).run P w=((loadVar ft a) >>= fun x=>match x with
  | .iface t' v'=>method (P.types.size+Made.depth-1) t' v' name
  | .nilIface=>runtimePanic .nilDeref
  |_=>stuck "method row: interface value expected").run P w):Fi P t name .vz:=
 ⟨ft,J,U,fun a w t' v' h=>by rw[aq,Sem.run_bind,h];rfl⟩
def NA(l:List (Nat×bn)):T bn:=l.foldl (fun t p=>t.put p.1 (some p.2)) .e
theorem NB:∀(l:List (Nat×bn)) (t:T bn) (f:Nat) (fP:bn),(l.foldl (fun t p=>t.put p.1 (some p.2)) t).get f=some fP->t.get f=some fP\/(f,fP)∈l
 |[],t,f,fP,h=>.inl h
 |(k,x)::l,t,f,fP,h=>by
  rcases NB l _ f fP h with J|J
  .rw[T.ux]at J
   split at J
   .rename_i e
    simp at e J
    rw[<-e,<-J]
    exact .inr aM
   .exact .inl J
  .exact .inr (by simp[J])
theorem asu{P:Program}{aQ:List Nat}{l:List (Nat×bn)}{t:T bn}(bg:NA l=t)(h:∀p∈l,∃fn,P.funcs[p.1]? =some fn/\AH P aQ fn=some p.2.plain):Fm P aQ t.get:=by
 intro f fP aV
 rw[<-bg]at aV
 rcases NB l _ f fP aV with J|J
 .simp[T.get]at J
 .exact h _ J
theorem aLT{l:List (Nat×bn)}{t:T bn}(bg:NA l=t){f:Nat}{fP:bn}(aV:t.get f=some fP):(f,fP)∈l:=by
 rw[<-bg]at aV
 rcases NB l _ f fP aV with J|J
 .simp[T.get]at J
 .exact J
theorem all_nil{α:Type}{p:α->Prop}:∀x∈([]:List α),p x:=aM
theorem all_cons{α:Type}{p:α->Prop}{a:α}{l:List α}(h:p a)(t:∀x∈l,p x):∀x∈a::l,p x:=by
 intro x aj
 rcases List.mem_cons.1 aj with rfl|aj
 .exact h
 .exact t x aj
