/- Part of the proof of BatchOnce, for every input. -/
import Derived.Test.YtobokeclhlbnmaaGreatB18
import Derived.Test.YtobokeclhlbnmaaGreatB20
set_option linter.all false
namespace Go.Proofs.Run
open Go Go.Abs
section
abbrev ju:=w7 pk LT (c3×kV)
def dn(x:ju)(vs:List Int):jb:=
 match x with
 | .none=>⟨.none,0,0,vs,false⟩
 | .lay l=>
   match l.2 with
   | .draw=>⟨.none,0,0,l.1.val::vs,false⟩
   | .wait t=>⟨.wait 0 t,0,0,l.1.val::vs,false⟩
   | .load=>⟨.hold 0,0,0,l.1.val::vs,false⟩
   | .key=>⟨.hold 0,0,0,l.1.val::vs,false⟩
   | .bZ=>⟨.hold 0,0,0,l.1.val::vs,false⟩
   | .cut _=>⟨.hold 0,0,0,l.1.val::vs,false⟩
   | .set=>⟨.hold 0,0,0,l.1.val::vs,false⟩
   | .rV d=>⟨.hold 0,0,if d.isSome then 1 else 0,l.1.val::vs,false⟩
   | .tB d=>⟨.hold 0,0,if d.isSome then 1 else 0,l.1.val::vs,false⟩
   | .tZ d=>⟨.hold 0,0,if d.isSome then 1 else 0,l.1.val::vs,false⟩
   | .mw d _=>⟨.hold 0,0,if d.isSome then 1 else 0,l.1.val::vs,false⟩
   | .sV d=>⟨.hold 0,0,if d.isSome then 1 else 0,l.1.val::vs,false⟩
   | .tY=>⟨.hold 0,0,1,l.1.val::vs,false⟩
   | .tW _=>⟨.hold 0,0,1,l.1.val::vs,false⟩
   | .tX=>⟨.hold 0,0,1,l.1.val::vs,false⟩
   | .more=>⟨.hold 0,0, -1,vs,false⟩
   | .jo=>⟨.hold 0,0,0,vs,false⟩
   | .j9 _=>⟨.hold 0,0,0,vs,false⟩
   | .drop=>⟨.hold 0,0,0,vs,false⟩
   | .done=>⟨.none,0,0,vs,false⟩
 | .b_ _ v=>
   match v.aY with
   | .draw=>⟨.none,0,0,vs,false⟩
   | .wait t=>⟨.wait 0 t,0,0,vs,false⟩
   |_=>⟨.hold 0,0,0,vs,false⟩
 | .stay _ _ _ _=>⟨.hold 0,0,0,vs,false⟩
 | .take _ R _ _=>
   match R with
   | .take _ _ aY=>
     match aY with
     | .jo _ _=>⟨.hold 0,0,0,vs,true⟩
     | .j9 _ _ _=>⟨.hold 0,0,0,vs,true⟩
     | .more=>⟨.hold 0,0,1,vs,false⟩
     |_=>⟨.hold 0,0,0,vs,false⟩
   | .leave _ _=>⟨.hold 0,0,0,vs,false⟩
 | .leave _ _=>⟨.hold 0,0,0,vs,false⟩
theorem tC(x:ju)(vs:List Int):(dn x vs).aC=0:=by
 cases x with
 |none=>rfl
 |lay l=>obtain⟨u,aY⟩:=l;cases aY<;>rfl
 |b_ k v=>simp only[dn];split<;>rfl
 |stay k v i c=>rfl
 |take k R i c=>cases R with
  |take v u aY=>cases aY<;>rfl
  |leave u d=>rfl
 |leave k R=>rfl
theorem aLo(x:ju)(vs:List Int){k:Int}(h:(dn x vs).cd= .hold k):k=0:=by
 cases x with
 |none=>simp[dn]at h
 |lay l=>obtain⟨u,aY⟩:=l;cases aY<;>simp[dn]at h<;>exact h.symm
 |b_ a9 v=>simp only[dn]at h;split at h<;>simp at h<;>exact h.symm
 |stay a9 v i c=>simp[dn]at h;exact h.symm
 |take a9 R i c=>cases R with
  |take v u aY=>cases aY<;>simp[dn]at h<;>exact h.symm
  |leave u d=>simp[dn]at h;exact h.symm
 |leave a9 R=>simp[dn]at h;exact h.symm
theorem aDq(x:ju)(vs:List Int):vs.length<=(dn x vs).vs.length:=by
 cases x with
 |none=>exact Nat.le_refl _
 |lay l=>obtain⟨u,aY⟩:=l;cases aY<;>simp[dn]
 |b_ k v=>simp only[dn];split<;>exact Nat.le_refl _
 |stay k v i c=>exact Nat.le_refl _
 |take k R i c=>cases R with
  |take v u aY=>cases aY<;>exact Nat.le_refl _
  |leave u d=>exact Nat.le_refl _
 |leave k R=>exact Nat.le_refl _
def nL{β:Type}(d x:β):Int->β:=ez (fun _=>d) 0 x
theorem nM{β:Type}(d x:β):nL d x 0=x:=h' _ _ _
theorem DZ{β:Type}(d x y:β):ez (nL d x) 0 y=nL d y:=by
 funext i;by_cases h:i=0
 .subst h;simp[nL,ez]
 .simp[nL,ez,h]
def w5(p:ff)(z:l8)(u:c3)(pre post:List dP):Prop:=z.a_=pre++post/\(u.bk,u.bo)=ml p.R pre/\∀l e,pre=l++[e]->(u.eo,u.ep)=ml p.R l
def s3(a:aE)(z:l8)(j:Nat)(u:c3)(ws:List Int):Prop:=z.own u.made= .lay j/\a.ws u.made=some ws
def sc(p:ff)(a:aE)(z:l8)(j:Nat)(u:c3):Option Int->Prop
 |none=>z.L<p.E
 |some last=>z.own last= .lay j/\last≠u.made/\∃l,a.ws last=some l
def lk(p:ff)(a:aE)(z:l8)(j:Nat)(u:c3)(aY:kV)(r:Nat):Prop:=
 match aY with
 | .draw=>r=2*p.E.toNat+13
 | .wait _=>r=2*p.E.toNat+12
 | .load=>∃pre post,w5 p z u pre post/\r=10+2*post.length
 | .key=>∃pre e post,w5 p z u pre (e::post)/\u.a7=e.h/\r=11+2*post.length
 | .bZ=>w5 p z u z.a_ []/\r=9
 | .cut last=>∃l e,z.a_=l++[e]/\(u.eo,u.ep)=ml p.R l/\last=e.h/\s3 a z j u [0,0,0]/\r=8
 | .rV d=>sc p a z j u d/\s3 a z j u [0,0,0]/\r=7
 | .tB d=>sc p a z j u d/\s3 a z j u [u.key,0,0]/\r=6
 | .tZ d=>sc p a z j u d/\s3 a z j u [u.key,u.val,0]/\r=5
 | .mw d w=>sc p a z j u d/\s3 a z j u [u.key,u.val,0]/\w=di z.a_ 0/\r=4
 | .sV d=>sc p a z j u d/\s3 a z j u [u.key,u.val,di z.a_ 0]/\r=3
 | .more=>z.L<p.E/\r=2
 | .drop=>r=1
 | .set=>∃pre e post,w5 p z u pre (e::post)/\u.a7=e.h/\r=7
 | .jo=>∃pre e post,w5 p z u pre (e::post)/\u.a7=e.h/\e.val=u.val/\r=6
 | .j9 x=>∃pre e post,w5 p z u pre (e::post)/\u.a7=e.h/\e.val=u.val/\x=di post 0/\r=5
 | .tY=>∃key x,z.own u.a7= .lay j/\a.ws u.a7=some [key,u.val,x]/\r=4
 | .tW x=>∃key cP,z.own u.a7= .lay j/\a.ws u.a7=some [key,u.val,cP]/\x=di z.a_ 0/\r=3
 | .tX=>∃key,z.own u.a7= .lay j/\a.ws u.a7=some [key,u.val,di z.a_ 0]/\r=2
 | .done=>False
def hR(p:ff)(c:Nat):Nat:=c*(2*p.E.toNat+10)+1
def vn(p:ff)(z:l8)(v:pk)(u:c3)(i c:Nat)(aY:pR)(r:Nat):Prop:=
 match aY with
 | .load=>((v.ks.drop i).Perm (z.a_.map (·.key))/\z.a_.length=c/\u.key=v.ks.getD i 0)/\∃pre post,z.a_=pre++post/\(u.bk,u.bo)=ml p.R pre/\u.key∉pre.map (·.key)/\r=hR p (c-1)+2*post.length+6
 | .key=>((v.ks.drop i).Perm (z.a_.map (·.key))/\z.a_.length=c/\u.key=v.ks.getD i 0)/\∃pre e post,z.a_=pre++e::post/\(u.bk,u.bo)=ml p.R pre/\u.a7=e.h/\u.key∉pre.map (·.key)/\r=hR p (c-1)+2*post.length+7
 | .cell=>∃pre e post,z.a_=pre++e::post/\(u.bk,u.bo)=ml p.R pre/\u.a7=e.h/\((v.ks.drop (i+1)).Perm ((pre++post).map (·.key))/\z.a_.length=c)/\r=hR p (c-1)+5
 | .jo _ _=>∃pre e post,z.a_=pre++e::post/\(u.bk,u.bo)=ml p.R pre/\u.a7=e.h/\((v.ks.drop (i+1)).Perm ((pre++post).map (·.key))/\z.a_.length=c)/\z.hx=e::(pre++post)/\r=hR p (c-1)+4
 | .j9 _ _ x=>∃pre e post,z.a_=pre++e::post/\(u.bk,u.bo)=ml p.R pre/\u.a7=e.h/\((v.ks.drop (i+1)).Perm ((pre++post).map (·.key))/\z.a_.length=c)/\z.hx=e::(pre++post)/\x=di post 0/\r=hR p (c-1)+3
 | .more=>((v.ks.drop (i+1)).Perm (z.a_.map (·.key))/\z.a_.length+1=c)/\r=hR p (c-1)+2
 | .done=>False
def rp(p:ff)(a:aE)(z:l8)(j:Nat)(x:ju)(r:Nat):Prop:=
 match x with
 | .none=>r=0
 | .lay l=>(dZ l.1.key/\dZ l.1.val)/\l.1.cJ=false/\lk p a z j l.1 l.2 r
 | .b_ k v=>k=0/\v.u.cJ=false/\
   match v.aY with
   | .draw=>v.ks=[]/\r=hR p p.E.toNat+2*p.E.toNat+4
   | .wait _=>v.ks=[]/\r=hR p p.E.toNat+2*p.E.toNat+3
   | .load=>∃pre post,z.a_=pre++post/\(v.u.bk,v.u.bo)=ml p.R pre/\v.ks=pre.map (·.key)/\r=hR p z.a_.length+2*post.length+2
   | .key=>∃pre e post,z.a_=pre++e::post/\v.u.a7=e.h/\v.ks=pre.map (·.key)/\r=hR p z.a_.length+2*post.length+3
   | .done=>False
 | .stay k v i c=>k=0/\(v.ks.drop i).Perm (z.a_.map (·.key))/\z.a_.length=c/\(v.ks.length=i+c/\i+c<=64)/\r=hR p c
 | .take k (.take v u aY) i c=>k=0/\(v.ks.length=i+c/\i+c<=64/\0<c)/\u.cJ=false/\vn p z v u i c aY r
 | .take k (.leave _ _) i c=>False
 | .leave k (.leave u d)=>k=0/\u.cJ=false/\r=1
 | .leave k (.take _ _ _)=>False
theorem rp.frame{p:ff}{a a':aE}{z z':l8}{j:Nat}{x:ju}{r:Nat}{vs:List Int}(h:rp p a z j x r)(gf:(dn x vs).cd= .hold 0->z'.a_=z.a_/\z'.L=z.L/\z'.hx=z.hx)(au:∀ay,z.own ay= .lay j->z'.own ay= .lay j/\a'.ws ay=a.ws ay):rp p a' z' j x r:=by
 cases x with
 |none=>exact h
 |lay l=>
  obtain⟨u,aY⟩:=l
  obtain⟨J,U,aq⟩:=h
  refine⟨J,U,?_⟩
  have e6:∀ws,s3 a z j u ws->s3 a' z' j u ws:=fun ws hm=>⟨(au _ hm.1).1,by rw[(au _ hm.1).2];exact hm.2⟩
  have kH:z'.a_=z.a_->∀pre post,w5 p z u pre post->w5 p z' u pre post:=fun e pre post hm=>⟨by rw[e];exact hm.1,hm.2⟩
  have jZ:z'.L=z.L->∀d,sc p a z j u d->sc p a' z' j u d:=fun e d hm=>by
   cases d with
   |none=>simp only[sc]at hm |-;rw[e];exact hm
   |some last=>exact⟨(au _ hm.1).1,hm.2.1,by rw[(au _ hm.1).2];exact hm.2.2⟩
  have AV:∀ws,z.own u.a7= .lay j->a.ws u.a7=some ws->a'.ws u.a7=some ws:=fun ws J U=>by rw[(au _ J).2];exact U
  cases aY<;>simp only[lk]at aq |-
  case draw=>exact aq
  case wait=>exact aq
  case load=>obtain⟨pre,post,c6,cO⟩:=aq;exact⟨pre,post,kH (gf rfl).1 _ _ c6,cO⟩
  case key=>obtain⟨pre,e,post,c6,cO⟩:=aq;exact⟨pre,e,post,kH (gf rfl).1 _ _ c6,cO⟩
  case bZ=>rw[(gf rfl).1];exact⟨kH (gf rfl).1 _ _ aq.1,aq.2⟩
  case cut=>obtain⟨l,e,c6,cO,fc,kR,ea⟩:=aq;exact⟨l,e,by rw[(gf rfl).1];exact c6,cO,fc,e6 _ kR,ea⟩
  case rV=>exact⟨jZ (gf rfl).2.1 _ aq.1,e6 _ aq.2.1,aq.2.2⟩
  case tB=>exact⟨jZ (gf rfl).2.1 _ aq.1,e6 _ aq.2.1,aq.2.2⟩
  case tZ=>exact⟨jZ (gf rfl).2.1 _ aq.1,e6 _ aq.2.1,aq.2.2⟩
  case mw=>rw[(gf rfl).1];exact⟨jZ (gf rfl).2.1 _ aq.1,e6 _ aq.2.1,aq.2.2⟩
  case sV=>rw[(gf rfl).1];exact⟨jZ (gf rfl).2.1 _ aq.1,e6 _ aq.2.1,aq.2.2⟩
  case set=>obtain⟨pre,e,post,c6,cO⟩:=aq;exact⟨pre,e,post,kH (gf rfl).1 _ _ c6,cO⟩
  case jo=>obtain⟨pre,e,post,c6,cO⟩:=aq;exact⟨pre,e,post,kH (gf rfl).1 _ _ c6,cO⟩
  case j9=>obtain⟨pre,e,post,c6,cO⟩:=aq;exact⟨pre,e,post,kH (gf rfl).1 _ _ c6,cO⟩
  case tY=>obtain⟨key,x,c6,cO,fc⟩:=aq;exact⟨key,x,(au _ c6).1,AV _ c6 cO,fc⟩
  case tW=>rw[(gf rfl).1];obtain⟨key,x,c6,cO,fc⟩:=aq;exact⟨key,x,(au _ c6).1,AV _ c6 cO,fc⟩
  case tX=>rw[(gf rfl).1];obtain⟨key,c6,cO,fc⟩:=aq;exact⟨key,(au _ c6).1,AV _ c6 cO,fc⟩
  case more=>rw[(gf rfl).2.1];exact aq
  case drop=>exact aq
 |b_ k v=>
  refine⟨h.1,h.2.1,?_⟩
  have U:=h.2.2
  simp only[dn]at gf
  cases aB:v.aY<;>simp only[aB]at U gf |- <;>first|exact U|(rw[(gf (by trivial)).1];exact U)
 |stay k v i c=>
  simp only[rp]at h |-
  rw[(gf rfl).1];exact h
 |take k R i c=>
  cases R with
  |leave u d=>exact h.elim
  |take v u aY=>
   have e:=gf (by cases aY<;>rfl)
   simp only[rp]at h |-
   refine⟨h.1,h.2.1,h.2.2.1,?_⟩
   have U:=h.2.2.2
   unfold vn at U |-
   rw[e.1,e.2.2];exact U
 |leave k R=>
  cases R with
  |take v u aY=>exact h.elim
  |leave u d=>exact h
def fj(z:l8)(x:ju):Prop:=
 match x with
 | .lay l=>match l.2 with
   | .wait t=>z.bM≠t
   |_=>False
 | .b_ _ v=>match v.aY with
   | .wait t=>z.bM≠t
   |_=>False
 |_=>False
def iN(x:ju):Int:=
 match x with
 | .lay l=>match l.2 with
   | .draw=>1
   | .wait _=>1
   | .load=>1
   | .key=>1
   | .bZ=>1
   |_=>0
 |_=>0
theorem Hb(x:ju):0<=iN x/\iN x<=1:=by
 cases x with
 |lay l=>simp only[iN];split<;>omega
 |_=>simp only[iN];omega
structure fe(p:ff)(an ar:Nat)(a8:List Int)(a:aE)(z:l8)(s:Nat->ju)(vs:Nat->List Int)(aX:List Int)(aS N:Int)(r:Nat->Nat):Prop where
 hm:eQ p a z
 lL:z.hx.Perm z.a_
 aQ:hS 1 p.E (nL [] z.hx) (nL 0 z.cY) (nL 0 z.bM) z.L 0 (fun j=>dn (s j) (vs j)) aX aS N
 loc:∀j,j<5->rp p a z j (s j) (r j)
 md:a.m.made+jR (fun j=>iN (s j))<=1+aS
 iZ:0<=aS/\aS<=2000
 dF:0<=N
 i':a.an=an/\a.ar=ar
 ins:a.inside=a8/\a.hq=5
 lI:∀j,j<3->∀l,s j≠ .lay l
 pc:1<=p.E/\p.E<=64
variable{p:ff}{an ar:Nat}{a8:List Int}{a:aE}{z:l8}{s:Nat->ju}{vs:Nat->List Int}{aX:List Int}{aS N:Int}{r:Nat->Nat}{j:Nat}
theorem fe.made(h:fe p an ar a8 a z s vs aX aS N r):a.m.made<=2001:=by
 have J:=h.md
 have U:=h.iZ
 have:0<=jR (fun j=>iN (s j)):=(E1 (j:=0) I fun i _=>(Hb (s i)).1).2
 omega
theorem fe.aDp(s:Nat->ju)(vs:Nat->List Int)(j:Nat)(x:ju)(vx:List Int):(fun i=>dn (bT s j x i) (bT vs j vx i))=bT (fun i=>dn (s i) (vs i)) j (dn x vx):=by
 funext i;by_cases h:i=j
 .subst h;simp[bT]
 .simp[bT,h]
theorem fe.gen(h:fe p an ar a8 a z s vs aX aS N r)(ax:j<5){x:ju}{vx:List Int}{a':aE}{z':l8}{rx:Nat}{td':List Int}{la' N':Int}(dK:eQ p a' z')(ob:Kept a' a)(B3:z'.hx.Perm z'.a_)
 (vB:hS 1 p.E (nL [] z'.hx) (nL 0 z'.cY) (nL 0 z'.bM) z'.L 0 (bT (fun i=>dn (s i) (vs i)) j (dn x vx)) td' la' N')
 (gf:(z'.a_=z.a_/\z'.L=z.L/\z'.hx=z.hx)\/(dn (s j) (vs j)).cd= .hold 0)
 (hV:∀ay i,i≠j->z.own ay= .lay i->z'.own ay= .lay i/\a'.ws ay=a.ws ay)
 (o_:rp p a' z' j x rx) (e6:a'.m.made+iN x-la'<=a.m.made+iN (s j)-aS) (dQ:3<=j\/∀l,x≠ .lay l) (kJ:0<=la'/\la'<=2000) (aF:0<=N'):
 fe p an ar a8 a' z' (bT s j x) (bT vs j vx) td' la' N' (bT r j rx):=by
 refine⟨dK,B3,by rw[fe.aDp];exact vB,fun i aC=>?_,?_,kJ,aF,by have:=ob.i';simp only[Prod.mk.injEq]at this;rw[this.1,this.2];exact h.i',by have:=ob.ins;simp only[Prod.mk.injEq]at this;rw[this.1,this.2];exact h.ins,fun i aC l=>?_,h.pc⟩
 .by_cases fq:i=j
  .subst fq;rw[ek,ek];exact o_
  .rw[gL _ _ fq,gL _ _ fq]
   refine(h.loc i aC).frame (vs:=vs i) (fun ah=>gf.elim id fun qS=>?_) fun ay au=>hV ay i fq au
   have j2:=h.aQ.mW i aC
   simp only[ah]at j2
   exact absurd ((h.aQ.cd 0 j2.1 j2.2).1.H4 aC ax ah qS) fq
 .rw[sR (w:=iN) ax x]
  have:=h.md;omega
 .by_cases fq:i=j
  .subst fq;rw[ek];exact(dQ.resolve_left I) l
  .rw[gL _ _ fq];exact h.lI i aC l
abbrev pj(p:ff)(an ar:Nat)(a8:List Int)(s:Nat->ju)(vs:Nat->List Int)(aX:List Int)(aS N:Int)(r:Nat->Nat)(j:Nat)(a':aE)(x:ju)(vx:List Int):Prop:=∃z' r',fe p an ar a8 a' z' (bT s j x) (bT vs j vx) aX aS (N+1) r'/\e2 r'<e2 r
theorem fe.step(h:fe p an ar a8 a z s vs aX aS N r)(ax:j<5){x:ju}{vx:List Int}{a':aE}{z':l8}{rx:Nat}(dK:eQ p a' z')(ob:Kept a' a)(B3:z'.hx.Perm z'.a_)
 (vB:hS 1 p.E (nL [] z'.hx) (nL 0 z'.cY) (nL 0 z'.bM) z'.L 0 (bT (fun i=>dn (s i) (vs i)) j (dn x vx)) aX aS (N+1))
 (gf:(z'.a_=z.a_/\z'.L=z.L/\z'.hx=z.hx)\/(dn (s j) (vs j)).cd= .hold 0)
 (hV:∀ay i,i≠j->z.own ay= .lay i->z'.own ay= .lay i/\a'.ws ay=a.ws ay)
 (o_:rp p a' z' j x rx) (e6:a'.m.made+iN x<=a.m.made+iN (s j)) (dQ:3<=j\/∀l,x≠ .lay l) (ak:rx<r j):
 pj p an ar a8 s vs aX aS N r j a' x vx:=by
 refine⟨z',bT r j rx,h.gen ax dK ob B3 vB gf hV o_ I dQ h.iZ (by have:=h.dF;omega),?_⟩
 have:=tQ (r:=r) ax rx
 omega
theorem fe.inner(h:fe p an ar a8 a z s vs aX aS N r)(ax:j<5)(eU:(dn (s j) (vs j)).cd= .hold 0){x:ju}{vx:List Int}{a':aE}{z':l8}{rx:Nat}(dK:eQ p a' z')(ob:Kept a' a)(Dy:(dn x vx).cd= .hold 0)(zn:z'.cY=z.cY)(fU:z'.bM=z.bM)(B3:z'.hx.Perm z'.a_)
 (af:(z'.a_.length:Int)+(dn x vx).cS- (z.a_.length+(dn (s j) (vs j)).cS)=z'.L-z.L) (nc:0<=(z'.a_.length:Int)+(dn x vx).cS) (ih:z'.L<=p.E)
 (hv:∀v,bZ v (k9 (dn x vx).hZ z'.hx)+bZ v (dn x vx).vs<=bZ v (k9 (dn (s j) (vs j)).hZ z.hx)+bZ v (dn (s j) (vs j)).vs)
 (hV:∀ay i,i≠j->z.own ay= .lay i->z'.own ay= .lay i/\a'.ws ay=a.ws ay)
 (o_:rp p a' z' j x rx) (e6:a'.m.made+iN x<=a.m.made+iN (s j)) (dQ:3<=j\/∀l,x≠ .lay l) (ak:rx<r j):
 pj p an ar a8 s vs aX aS N r j a' x vx:=by
 refine h.step ax dK ob B3 ?_ (.inr eU) hV o_ e6 dQ ak
 have J:=B3.length_eq
 have U:=h.lL.length_eq
 rw[<-DZ [] z.hx z'.hx,zn,fU]
 refine h.aQ.inner ax (k:=0) eU Dy ?_ ?_ ih ?_ ?_ ?_
 .rw[nM,J,U];exact af
 .rw[J];exact nc
 .show(0:Int)=0+((dn x vx).aC- (dn (s j) (vs j)).aC)
  rw[tC,tC];rfl
 .rw[tC];omega
 .rw[nM];exact hv
theorem fe.bK(h:fe p an ar a8 a z s vs aX aS N r)(ax:j<5){x:ju}{rx:Nat}(hv:dn x (vs j)=dn (s j) (vs j))(o_:rp p a z j x rx)(e6:iN x<=iN (s j))(dQ:3<=j\/∀l,x≠ .lay l)(ak:rx<r j):
 pj p an ar a8 s vs aX aS N r j a.tick x (vs j):=
 h.step ax h.hm.tick ⟨rfl,rfl⟩ h.lL (h.aQ.same hv) (.inl ⟨rfl,rfl,rfl⟩) (fun _ _ _ h=>⟨h,rfl⟩) (o_.frame (vs:=vs j) (fun _=>⟨rfl,rfl,rfl⟩) fun _ au=>⟨au,rfl⟩) (by show a.m.made+iN x<=_;omega) dQ ak
theorem fe.wait(h:fe p an ar a8 a z s vs aX aS N r)(ax:j<5){x:ju}(hv:dn x (vs j)=dn (s j) (vs j))(o_:rp p a z j x (r j))(e6:iN x<=iN (s j))(dQ:3<=j\/∀l,x≠ .lay l):
 fe p an ar a8 a.tick z (bT s j x) vs aX aS (N+1) r:=by
 have:=h.gen ax (x:=x) (vx:=vs j) (td':=aX) (la':=aS) (N':=N+1) (rx:=r j) h.hm.tick ⟨rfl,rfl⟩ h.lL (h.aQ.same hv) (.inl ⟨rfl,rfl,rfl⟩) (fun _ _ _ h=>⟨h,rfl⟩) (o_.frame (vs:=vs j) (fun _=>⟨rfl,rfl,rfl⟩) fun _ au=>⟨au,rfl⟩) (by show a.m.made+iN x-aS<=_;omega) dQ h.iZ (by have:=h.dF;omega)
 rw[gz,gz]at this;exact this
def s0(p:ff)(an ar:Nat)(a8:List Int)(z:l8)(s:Nat->ju)(vs:Nat->List Int)(aX:List Int)(aS N:Int)(r:Nat->Nat)(j:Nat)(a':aE)(x:ju)(vx:List Int):Prop:=
 ∃z' r',fe p an ar a8 a' z' (bT s j x) (bT vs j vx) aX aS (N+1) r'/\(fj z (s j)->z'=z/\fj z x/\r'=r)/\(¬fj z (s j)->e2 r'<e2 r)
theorem s0.dec{a':aE}{x:ju}{vx:List Int}(hw:¬fj z (s j))(h:pj p an ar a8 s vs aX aS N r j a' x vx):s0 p an ar a8 z s vs aX aS N r j a' x vx:=by
 obtain⟨z',r',J,U⟩:=h
 exact⟨z',r',J,fun h=>absurd h hw,fun _=>U⟩
theorem s0.wait{x:ju}(hw:fj z (s j))(h:fe p an ar a8 a.tick z (bT s j x) vs aX aS (N+1) r)(aj:fj z x):s0 p an ar a8 z s vs aX aS N r j a.tick x (vs j):=
 ⟨z,r,by rw[gz];exact h,fun _=>⟨rfl,aj,rfl⟩,fun h=>absurd hw h⟩
theorem fe.x2(h:fe p an ar a8 a z s vs aX aS N r)(aF:N<1000000000):(0<=z.L/\z.L<=p.E)/\(0<=z.bM/\z.bM<=z.cY/\z.cY<=N)/\fy z.cY iw 1=z.cY+1/\fy z.bM iw 1=z.bM+1:=by
 have J:=h.aQ.N7
 have U:=h.aQ.LE
 obtain⟨aq,aK⟩:=h.aQ.cd 0 I (by decide)
 rw[nM]at aK
 have bx:=aq.le
 rw[nM,nM]at bx
 have e:∀w:Int,0<=w->w<1000000000->fy w iw 1=w+1:=fun w aK bx=>by
  rw[xm ⟨aK,I⟩ ⟨by decide,by decide⟩,sU ⟨I,I⟩]
 exact⟨⟨J,U⟩,⟨bx.1,bx.2,aK⟩,e _ I I,e _ bx.1 I⟩
theorem fe.len(h:fe p an ar a8 a z s vs aX aS N r)(ax:j<5)(aA:(dn (s j) (vs j)).cd= .hold 0):(z.a_.length:Int)+(dn (s j) (vs j)).cS=z.L:=by
 obtain⟨c,cF,U,aq,aK,bx⟩:=h.aQ.ex
 obtain⟨gJ,fV,fW⟩:=aq 0 I (by decide)
 have:=(fW j ax aA).1
 rw[nM,h.lL.length_eq]at this
 simp only[ms]at U
 have e:c ((0:Nat):Int)=c 0:=rfl
 rw[e]at U
 show(z.a_.length:Int)+(dn (s j) (vs j)).cS=z.L
 omega
theorem eQ.uN(h:eQ p a z){e:dP}(he:e∈z.a_):IntKind.wrap .i64 e.h=e.h/\e.h≠0/\IntKind.wrap .u64 e.h=e.h:=by
 have:=h.n3 he
 exact⟨wrap_i64 I I,I,wrap_u64 I I⟩
theorem G7(h:eQ p a z){pre post:List dP}(af:z.a_=pre++post):(post=[]/\di post 0=0)\/∃e l,post=e::l/\di post 0=e.h/\e.h≠0/\IntKind.wrap .i64 (di post 0)=e.h:=by
 cases post with
 |nil=>exact .inl ⟨rfl,rfl⟩
 |cons e l=>
  have:=h.uN (e:=e) (by rw[af];simp)
  exact .inr ⟨e,l,rfl,rfl,this.2.1,this.1⟩
theorem G8(h:eQ p a z){pre post:List dP}(af:z.a_=pre++post):dZ (di post 0):=by
 cases post with
 |nil=>exact⟨by decide,by decide⟩
 |cons e l=>
  have:=h.n3 (e:=e) (by rw[af];simp)
  exact⟨by show 0<=e.h;omega,by show e.h<_;omega⟩
theorem Qf{v:Int}{l l':List dP}(h:l.Perm l'):bZ v (l.map (·.val))=bZ v (l'.map (·.val)):=by
 unfold bZ;rw[(h.map _).count_eq]
end
section
variable{p:ff}{an ar:Nat}{a8:List Int}{a:aE}{z:l8}{s:Nat->ju}{vs:Nat->List Int}{aX:List Int}{aS N:Int}{r:Nat->Nat}{j:Nat}
def xV(u:c3)(aY:kV):ju:=bif u.cJ then .none else .lay (u,aY)
theorem s3.mono{a a':aE}{z z':l8}{u bj:c3}{ws:List Int}(h:s3 a z j u ws)(hu:bj.made=u.made)(J:z'.own u.made= .lay j)(U:a'.ws u.made=a.ws u.made):s3 a' z' j bj ws:=⟨by rw[hu];exact J,by rw[hu,U];exact h.2⟩
theorem sc.mono{a a':aE}{z z':l8}{u bj:c3}{d:Option Int}(h:sc p a z j u d)(hu:bj.made=u.made)(m6:z'.L=z.L)(J:∀ay,z.own ay= .lay j->ay≠u.made->z'.own ay= .lay j/\a'.ws ay=a.ws ay):sc p a' z' j bj d:=by
 cases d with
 |none=>simp only[sc]at h |-;rw[m6];exact h
 |some last=>
  obtain⟨c6,cO,fc⟩:=h
  obtain⟨kR,ea⟩:=J last c6 cO
  exact⟨kR,by rw[hu];exact cO,by rw[ea];exact fc⟩
theorem aCU(h:fe p an ar a8 a z s vs aX aS N r)(ax:j<5)(aF:N<1000000000){u:c3}{aY:kV}(aa:s j= .lay (u,aY)):u.cJ=false/\kO p a {u with bH:=false} aY (fun a' bj dV=>s0 p an ar a8 z s vs aX aS N r j a' (xV bj dV) (vs j)):=by
 have g_:3<=j:=by
  rcases Nat.lt_or_ge j 3 with aq|aq
  .exact absurd aa (h.lI j aq _)
  .exact aq
 have lE:=h.loc j ax
 rw[aa]at lE
 obtain⟨⟨eF,fD⟩,hf,aB⟩:=lE
 refine⟨hf,?_⟩
 simp only at eF fD hf aB
 have mJ:=h.pc
 obtain⟨⟨uy,ih⟩,⟨Bf,rN,j3⟩,cL,h8⟩:=h.x2 aF
 have na:=h.made
 have KR:=h.hm.az.q1
 have hlen:=h.len ax
 have n_:∀(bj:c3) (dV:kV),bj.cJ=false->xV bj dV= .lay (bj,dV):=fun bj dV e=>by simp[xV,e]
 have GJ:=h.lL.length_eq
 have vO:=fun v=>Qf (v:=v) h.lL
 have nf:∀(bj:c3) (dV:kV) (rx:Nat),bj.cJ=false->dn (.lay (bj,dV)) (vs j)=dn (s j) (vs j)->¬fj z (s j)->(dZ bj.key/\dZ bj.val)->lk p a z j bj dV rx->iN (.lay (bj,dV))<=iN (s j)->rx<r j->s0 p an ar a8 z s vs aX aS N r j a.tick (xV bj dV) (vs j):=fun bj dV rx aH hv hw aC aA fi ak=>by
  rw[n_ bj dV aH]
  exact .dec hw (h.bK ax hv ⟨aC,aH,aA⟩ fi (.inl g_) ak)
 have hV:∀(bd oG v:Int) (bj:c3) (dV:kV) (rx:Nat),z.own bd= .lay j->bj.cJ=false->dn (.lay (bj,dV)) (vs j)=dn (s j) (vs j)->¬fj z (s j)->(dZ bj.key/\dZ bj.val)->lk p (a.put bd oG v) z j bj dV rx->iN (.lay (bj,dV))<=iN (s j)->rx<r j->s0 p an ar a8 z s vs aX aS N r j (a.put bd oG v) (xV bj dV) (vs j):=fun bd oG v bj dV rx au aH hv hw aC aA fi ak=>by
  rw[n_ bj dV aH]
  refine .dec hw (h.step ax (h.hm.Mk au) ⟨rfl,rfl⟩ h.lL (h.aQ.same hv) (.inl ⟨rfl,rfl,rfl⟩) (fun ay i2 p8 qV=>⟨qV,hI fun e=>?_⟩) ⟨aC,aH,aA⟩ ?_ (.inl g_) ak)
  .rw[e,au]at qV;simp at qV;exact p8 qV.symm
  .show a.m.made+iN _<=_;omega
 cases aY with
 |done=>exact aB.elim
 |draw=>
  simp only[lk]at aB
  simp only[kO]
  have cH:¬fj z (s j):=by rw[aa];simp[fj]
  refine⟨_,h.hm.aeF,?_⟩
  rw[cL,n_ _ _ (by exact hf)]
  have aQ:=h.aQ.draw (k:=0) (x:=dn (.lay ({u with bH:=false},.wait z.cY)) (vs j)) ax I (by rw[aa];rfl) (tC _ _) h.iZ.1 (by rw[nM];rfl) (tC _ _) (fun v=>by rw[aa];exact Int.le_refl _)
  rw[nM,DZ]at aQ
  refine .dec cH (h.step ax (z':={z with cY:=z.cY+1}) (h.hm.tK rfl rfl rfl) ⟨rfl,rfl⟩ h.lL aQ (.inl ⟨rfl,rfl,rfl⟩) (fun ay i aC au=>⟨au,hI fun e=>?_⟩) (rx:=2*p.E.toNat+12) ⟨⟨eF,fD⟩,hf,rfl⟩ ?_ (.inl g_) I)
  .rw[e,h.hm.et]at au;simp at au
  .rw[aa];exact Int.le_refl _
 |wait bK=>
  simp only[lk]at aB
  simp only[kO]
  refine⟨_,h.hm.HK,fun e=>?_,fun e=>?_⟩
  .have hw:fj z (s j):=by rw[aa];exact e
   rw[n_ _ _ (by exact hf)]
   refine s0.wait hw (h.wait ax ?_ ⟨⟨eF,fD⟩,hf,aB⟩ ?_ (.inl g_)) e
   .rw[aa];rfl
   .rw[aa];exact Int.le_refl _
  .have cH:¬fj z (s j):=by rw[aa];exact fun h=>h e
   rw[n_ _ _ (by exact hf)]
   have aQ:=h.aQ.go (k:=0) (x:=dn (.lay ({u with bH:=false,bk:=p.R,bo:=2},.load)) (vs j)) ax (by rw[aa,nM,e];rfl) (tC _ _) rfl rfl rfl rfl (fun v=>by rw[aa];exact Int.le_refl _)
   have aA:=aQ.qi ax (k:=0) (by rw[ek];rfl)
   rw[ek,nM,GJ]at aA
   have pu:(dn (.lay ({u with bH:=false,bk:=p.R,bo:=2},.load)) (vs j)).cS=0:=rfl
   rw[pu]at aA
   refine .dec cH (h.step ax h.hm.tick ⟨rfl,rfl⟩ h.lL aQ (.inl ⟨rfl,rfl,rfl⟩) (fun ay i aC au=>⟨au,rfl⟩) (rx:=10+2*z.a_.length) ⟨⟨eF,fD⟩,hf,[],z.a_,⟨rfl,rfl,fun l e h=>by simp at h⟩,rfl⟩ ?_ (.inl g_) I)
   rw[aa];exact Int.le_refl _
 |load=>
  simp only[lk]at aB
  simp only[kO]
  have cH:¬fj z (s j):=by rw[aa];simp[fj]
  obtain⟨pre,post,⟨af,fh,o4⟩,ak⟩:=aB
  have hB:=h.hm.u6 af
  rw[<-fh]at hB
  refine⟨_,hB,fun e=>?_,fun e=>?_⟩
  .rcases G7 h.hm af with⟨aD,aJ⟩|⟨aD,l,aJ,bP,g0,iX⟩
   .subst aD
    rw[List.append_nil]at af
    refine nf _ _ 9 hf (by rw[aa];rfl) cH ⟨eF,fD⟩ ⟨⟨aM,by rw[af];exact fh,by rw[af];exact o4⟩,rfl⟩ (by rw[aa];exact Int.le_refl _) I
   .exact absurd (bP▸e) g0
  .rcases G7 h.hm af with⟨aD,aJ⟩|⟨aD,l,aJ,bP,g0,iX⟩
   .exact absurd aJ e
   .rw[iX]
    subst aJ
    simp only[List.length_cons]at ak
    exact nf _ _ (11+2*l.length) hf (by rw[aa];rfl) cH ⟨eF,fD⟩ ⟨pre,aD,l,⟨af,fh,o4⟩,rfl,rfl⟩ (by rw[aa];exact Int.le_refl _) I
 |key=>
  simp only[lk]at aB
  simp only[kO]
  have cH:¬fj z (s j):=by rw[aa];simp[fj]
  obtain⟨pre,e,post,⟨af,fh,o4⟩,gN,ak⟩:=aB
  have hJ:e∈z.a_:=by rw[af];simp
  rw[gN]
  refine⟨_,h.hm.rd_key hJ,fun aD=>?_,fun aD=>?_⟩
  .exact nf _ _ 7 hf (by rw[aa];rfl) cH ⟨eF,fD⟩ ⟨pre,e,post,⟨af,fh,o4⟩,rfl,rfl⟩ (by rw[aa];show(0:Int)<=1;omega) I
  .refine nf _ _ (10+2*post.length) hf (by rw[aa];rfl) cH ⟨eF,fD⟩ ⟨pre++[e],post,⟨by rw[af];simp,by rw[DS],fun l ee aA=>?_⟩,rfl⟩ (by rw[aa];exact Int.le_refl _) I
   have:=(List.append_inj' aA rfl).1
   rw[<-this];exact fh
 |bZ=>
  simp only[lk]at aB
  simp only[kO]
  have cH:¬fj z (s j):=by rw[aa];simp[fj]
  obtain⟨⟨_,fh,o4⟩,ak⟩:=aB
  have m_:=hlen (by rw[aa];rfl)
  rw[aa]at m_
  have m_:(z.a_.length:Int)+0=z.L:=m_
  obtain⟨dK,uK,dR,lG⟩:=h.hm.tick.make (by show a.m.made+1<_;omega) j 0
  have bp:∀ay i,z.own ay= .lay i->ay≠a.m.made+1:=fun ay i au e=>by
   have aAD:z.own (a.m.made+1)= .none:=lG
   rw[e,aAD]at au;simp at au
  refine⟨⟨I,I⟩,⟨KR,I⟩,_,h.hm.M0,fun aD=>?_,fun aD aJ b=>?_,fun aD aJ b=>?_⟩
  .rw[n_ _ _ (by exact hf)]
   refine .dec cH (h.inner ax (by rw[aa];rfl) h.hm.tick ⟨rfl,rfl⟩ rfl rfl rfl h.lL ?_ ?_ ih ?_ (fun ay i aC au=>⟨au,rfl⟩) (rx:=1) ⟨⟨eF,fD⟩,hf,rfl⟩ ?_ (.inl g_) I)
   .rw[aa];show(z.a_.length:Int)+0- (z.a_.length+0)=z.L-z.L;omega
   .show 0<=(z.a_.length:Int)+0;omega
   .intro v;rw[aa]
    have:=rB v u.val (vs j)
    have:=sh v [u.val]
    show bZ v (k9 false z.hx)+bZ v (vs j)<=bZ v (k9 false z.hx)+bZ v (u.val::vs j)
    omega
   .rw[aa];show a.m.made+0<=a.m.made+1;omega
  .obtain⟨dK,uK,dR,_⟩:=h.hm.tick.make (by show a.m.made+1<_;omega) j b
   rw[n_ _ _ (by exact hf)]
   refine .dec cH (h.inner ax (by rw[aa];rfl) dK ⟨rfl,rfl⟩ rfl rfl rfl h.lL ?_ ?_ ih ?_ (fun ay i aC au=>⟨?_,dR ay (bp ay i au)⟩) (rx:=7) ⟨⟨eF,fD⟩,hf,aJ,⟨h' _ _ _,uK⟩,rfl⟩ ?_ (.inl g_) I)
   .rw[aa];show(z.a_.length:Int)+0- (z.a_.length+0)=z.L-z.L;omega
   .show 0<=(z.a_.length:Int)+0;omega
   .intro v;rw[aa];exact Int.le_refl _
   .show ez z.own (a.m.made+1) (.lay j) ay= .lay i
    rw[dT _ _ (bp ay i au)];exact au
   .rw[aa];show a.m.made+1+0<=a.m.made+1;omega
  .obtain⟨dK,uK,dR,_⟩:=h.hm.tick.make (by show a.m.made+1<_;omega) j b
   rw[n_ _ _ (by exact hf)]
   have azm:z.a_≠[]:=fun e=>by rw[e]at m_;simp at m_;omega
   obtain⟨l,e,hle⟩:∃l e,z.a_=l++[e]:=⟨_,_,(List.dropLast_concat_getLast azm).symm⟩
   refine .dec cH (h.inner ax (by rw[aa];rfl) dK ⟨rfl,rfl⟩ rfl rfl rfl h.lL ?_ ?_ ih ?_ (fun ay i aC au=>⟨?_,dR ay (bp ay i au)⟩) (rx:=8) ⟨⟨eF,fD⟩,hf,l,e,hle,o4 l e hle,?_,⟨h' _ _ _,uK⟩,rfl⟩ ?_ (.inl g_) I)
   .rw[aa];show(z.a_.length:Int)+0- (z.a_.length+0)=z.L-z.L;omega
   .show 0<=(z.a_.length:Int)+0;omega
   .intro v;rw[aa];exact Int.le_refl _
   .show ez z.own (a.m.made+1) (.lay j) ay= .lay i
    rw[dT _ _ (bp ay i au)];exact au
   .rw[hle,DS]at fh
    exact congrArg Prod.fst fh
   .rw[aa];show a.m.made+1+0<=a.m.made+1;omega
 |cut last=>
  simp only[lk]at aB
  simp only[kO]
  have cH:¬fj z (s j):=by rw[aa];simp[fj]
  obtain⟨l,e,hle,o4,kJ,e6,ak⟩:=aB
  have hJ:e∈z.a_:=by rw[hle];simp
  have hB:=h.hm.u6 (pre:=l) (post:=[e]) hle
  obtain⟨dK,dR,tr⟩:=h.hm.cut (pre:=l) (e:=e) (post:=[]) (by rw[hle]) (.lay j) aM (l++[])
  rw[<-o4]at hB dK dR tr
  refine⟨⟨_,hB⟩,?_⟩
  rw[n_ _ _ (by exact hf)]
  have kK:=h.hm.e7 e hJ
  have zf:u.made≠e.h:=fun aD=>by have:=e6.1;rw[aD,kK]at this;simp at this
  have py:∀ay i,z.own ay= .lay i->ay≠p.R:=fun ay i au e=>by rw[e,h.hm.et]at au;simp at au
  obtain⟨cP,qd⟩:=h.hm.x9 hJ
  refine .dec cH (h.inner ax (by rw[aa];rfl) dK ⟨rfl,rfl⟩ rfl rfl rfl (List.Perm.refl _) ?_ ?_ ih ?_ (fun ay i aC au=>⟨?_,dR ay (by rw[au];simp) (py ay i au)⟩) (rx:=7) ⟨⟨eF,fD⟩,hf,⟨?_,?_,?_⟩,⟨?_,?_⟩,rfl⟩ ?_ (.inl g_) I)
  .rw[aa,hle];show((l++[]).length:Int)+1- ((l++[e]).length+0)=z.L-z.L;simp<;>omega
  .show 0<=((l++[]).length:Int)+1;omega
  .intro v;rw[aa]
   show bZ v ((l++[]).map (fun x:dP=>x.val))+bZ v (u.val::vs j)<=bZ v (z.hx.map (·.val))+bZ v (u.val::vs j)
   rw[vO,hle,List.map_append,List.map_append,rA,rA]
   have:=sh v ([e].map fun x:dP=>x.val)
   have cZ:bZ v (([]:List dP).map (·.val))=0:=rfl
   omega
  .show ez z.own e.h (.lay j) ay= .lay i
   have:ay≠e.h:=fun aD=>by rw[aD,kK]at au;simp at au
   rw[dT _ _ this];exact au
  .rw[kJ];exact h' _ _ _
  .rw[kJ];exact fun e=>zf e.symm
  .rw[kJ];exact⟨_,tr.trans qd⟩
  .show ez z.own e.h (.lay j) u.made= .lay j
   rw[dT _ _ zf];exact e6.1
  .show(a.put u.eo u.ep 0).ws u.made=_
   have sA:=dR u.made (by rw[e6.1];simp) (py _ _ e6.1)
   exact sA.trans e6.2
  .rw[aa];exact Int.le_refl _
 |rV d=>
  simp only[lk]at aB
  simp only[kO]
  have cH:¬fj z (s j):=by rw[aa];simp[fj]
  obtain⟨jZ,e6,ak⟩:=aB
  refine⟨eF,⟨0,lO e6.2 I rfl⟩,?_⟩
  refine hV _ _ _ _ _ 6 e6.1 hf (by rw[aa];rfl) cH ⟨eF,fD⟩ ⟨jZ.mono rfl rfl fun ay au bp=>⟨au,hI bp⟩,⟨e6.1,?_⟩,rfl⟩ (by rw[aa];exact Int.le_refl _) I
  show(a.put u.made 0 u.key).ws u.made=_
  rw[oo,e6.2];simp
 |tB d=>
  simp only[lk]at aB
  simp only[kO]
  have cH:¬fj z (s j):=by rw[aa];simp[fj]
  obtain⟨jZ,e6,ak⟩:=aB
  refine⟨fD,⟨0,lO e6.2 I rfl⟩,?_⟩
  refine hV _ _ _ _ _ 5 e6.1 hf (by rw[aa];rfl) cH ⟨eF,fD⟩ ⟨jZ.mono rfl rfl fun ay au bp=>⟨au,hI bp⟩,⟨e6.1,?_⟩,rfl⟩ (by rw[aa];exact Int.le_refl _) I
  show(a.put u.made 1 u.val).ws u.made=_
  rw[oo,e6.2];simp
 |tZ d=>
  simp only[lk]at aB
  simp only[kO]
  have cH:¬fj z (s j):=by rw[aa];simp[fj]
  obtain⟨jZ,e6,ak⟩:=aB
  exact⟨_,h.hm.BT,nf _ _ 4 hf (by rw[aa];rfl) cH ⟨eF,fD⟩ ⟨jZ.mono rfl rfl fun ay au _=>⟨au,rfl⟩,e6,rfl,rfl⟩ (by rw[aa];exact Int.le_refl _) I⟩
 |mw d w=>
  simp only[lk]at aB
  simp only[kO]
  have cH:¬fj z (s j):=by rw[aa];simp[fj]
  obtain⟨jZ,e6,rfl,ak⟩:=aB
  refine⟨G8 h.hm (pre:=[]) rfl,⟨0,lO e6.2 I rfl⟩,?_⟩
  refine hV _ _ _ _ _ 3 e6.1 hf (by rw[aa];rfl) cH ⟨eF,fD⟩ ⟨jZ.mono rfl rfl fun ay au bp=>⟨au,hI bp⟩,⟨e6.1,?_⟩,rfl⟩ (by rw[aa];exact Int.le_refl _) I
  show(a.put u.made 2 (di z.a_ 0)).ws u.made=_
  rw[oo,e6.2];simp
 |sV d=>
  simp only[lk]at aB
  have cH:¬fj z (s j):=by rw[aa];simp[fj]
  obtain⟨jZ,e6,ak⟩:=aB
  have Gv:IntKind.wrap .u64 u.made=u.made:=by
   have:=h.hm.of u.made (by rw[e6.1];simp)
   exact wrap_u64 I I
  obtain⟨dK,dR⟩:=h.hm.front e6.1 e6.2 (⟨u.made,u.key,u.val⟩::z.a_)
  have py:∀ay i,z.own ay= .lay i->ay≠p.R:=fun ay i au e=>by rw[e,h.hm.et]at au;simp at au
  cases d with
  |none=>
   simp only[kO]
   rw[Gv]
   refine⟨⟨_,h.hm.BT⟩,?_⟩
   rw[n_ _ _ (by exact hf)]
   refine .dec cH (h.inner ax (by rw[aa];rfl) dK ⟨rfl,rfl⟩ rfl rfl rfl (List.Perm.refl _) ?_ ?_ ih ?_ (fun ay i aC au=>⟨?_,dR ay (py ay i au)⟩) (rx:=2) ⟨⟨eF,fD⟩,hf,jZ,rfl⟩ ?_ (.inl g_) I)
   .rw[aa];show((⟨u.made,u.key,u.val⟩::z.a_:List dP).length:Int)+ -1- (z.a_.length+0)=z.L-z.L;simp<;>omega
   .show 0<=((⟨u.made,u.key,u.val⟩::z.a_:List dP).length:Int)+ -1;simp<;>omega
   .intro v;rw[aa]
    show bZ v (u.val::z.a_.map (·.val))+bZ v (vs j)<=bZ v (z.hx.map (·.val))+bZ v (u.val::vs j)
    rw[vO,rB v u.val (z.a_.map (·.val)),rB v u.val (vs j)];omega
   .show ez z.own u.made (.room 0) ay= .lay i
    have:ay≠u.made:=fun aD=>by rw[aD,e6.1]at au;simp at au;exact aC au.symm
    rw[dT _ _ this];exact au
   .rw[aa];exact Int.le_refl _
  |some last=>
   simp only[kO]
   rw[Gv]
   obtain⟨c6,cO,lw,fc⟩:=jZ
   have aEN:ez z.own u.made (.room 0) last= .lay j:=by rw[dT _ _ cO];exact c6
   obtain⟨⟨KE,vV⟩,KF⟩:=dK.defer (e:=last) (j:=j) aEN (l:=lw) (by rw[dR last (py _ _ c6)];exact fc)
   refine⟨⟨_,h.hm.BT⟩,KE,vV,h.hm.oj I,fun b bC fl c_=>?_⟩
   obtain⟨hF,Lh⟩:=KF b bC fl c_
   rw[n_ _ _ (by exact hf)]
   refine .dec cH (h.inner ax (by rw[aa];rfl) hF ⟨rfl,rfl⟩ rfl rfl rfl (List.Perm.refl _) ?_ ?_ ih ?_ (fun ay i aC au=>?_) (rx:=1) ⟨⟨eF,fD⟩,hf,rfl⟩ ?_ (.inl g_) I)
   .rw[aa];show((⟨u.made,u.key,u.val⟩::z.a_:List dP).length:Int)+0- (z.a_.length+1)=z.L-z.L;simp
   .show 0<=((⟨u.made,u.key,u.val⟩::z.a_:List dP).length:Int)+0;omega
   .intro v;rw[aa]
    show bZ v (u.val::z.a_.map (·.val))+bZ v (vs j)<=bZ v (z.hx.map (·.val))+bZ v (u.val::vs j)
    rw[vO,rB v u.val (z.a_.map (·.val)),rB v u.val (vs j)];omega
   .have bq:ay≠u.made:=fun aD=>by rw[aD,e6.1]at au;simp at au;exact aC au.symm
    have aT:ay≠last:=fun aD=>by rw[aD,c6]at au;simp at au;exact aC au.symm
    have tm:ez z.own u.made (.room 0) ay= .lay i:=by rw[dT _ _ bq];exact au
    refine⟨?_,?_⟩
    .show ez (ez z.own u.made (.room 0)) last .queue ay= .lay i
     rw[dT _ _ aT];exact tm
    .rw[Lh ay (by show ez z.own u.made (.room 0) ay≠_;rw[tm];simp) aT];exact dR ay (py ay i au)
   .rw[aa]
    show((((a.put p.R 2 u.made).push last b bC fl).m.cX _).made:Int)+0<=a.m.made+0
    rw[(tz _ _).2.1];exact Int.le_refl _
 |more=>
  simp only[lk]at aB
  simp only[kO]
  have cH:¬fj z (s j):=by rw[aa];simp[fj]
  obtain⟨aKz,ak⟩:=aB
  have m_:=hlen (by rw[aa];rfl)
  rw[aa]at m_
  have m_:(z.a_.length:Int)+ -1=z.L:=m_
  have Kw:fy z.L iw 1=z.L+1:=by rw[xm ⟨uy,I⟩ ⟨by decide,by decide⟩,sU ⟨I,I⟩]
  refine⟨_,h.hm.M0,?_⟩
  rw[Kw,n_ _ _ (by exact hf)]
  refine .dec cH (h.inner ax (by rw[aa];rfl) (z':={z with L:=z.L+1}) (h.hm.tK rfl rfl rfl) ⟨rfl,rfl⟩ rfl rfl rfl h.lL ?_ ?_ ?_ ?_ (fun ay i aC au=>⟨au,hI fun e=>?_⟩) (rx:=1) ⟨⟨eF,fD⟩,hf,rfl⟩ ?_ (.inl g_) I)
  .rw[aa];show(z.a_.length:Int)+0- (z.a_.length+ -1)=z.L+1-z.L;omega
  .show 0<=(z.a_.length:Int)+0;omega
  .show z.L+1<=p.E;omega
  .intro v;rw[aa];exact Int.le_refl _
  .rw[e,h.hm.et]at au;simp at au
  .rw[aa];exact Int.le_refl _
 |drop=>
  simp only[lk]at aB
  simp only[kO]
  have cH:¬fj z (s j):=by rw[aa];simp[fj]
  refine⟨_,h.hm.HK,?_⟩
  rw[h8]
  have aQ:=h.aQ.leave (k:=0) (x:=dn .none (vs j)) ax (by rw[aa];rfl) (tC _ _) (by rw[aa];rfl) (by rw[aa];rfl) rfl rfl (fun v=>by rw[aa];exact Int.le_refl _)
  rw[nM,DZ]at aQ
  refine .dec cH (h.step ax (x:=.none) (z':={z with bM:=z.bM+1}) (h.hm.tK rfl rfl rfl) ⟨rfl,rfl⟩ h.lL aQ (.inl ⟨rfl,rfl,rfl⟩) (fun ay i aC au=>⟨au,hI fun e=>?_⟩) (rx:=0) rfl ?_ (.inl g_) I)
  .rw[e,h.hm.et]at au;simp at au
  .rw[aa];exact Int.le_refl _
 |set=>
  simp only[lk]at aB
  simp only[kO]
  have cH:¬fj z (s j):=by rw[aa];simp[fj]
  obtain⟨pre,e,post,⟨af,fh,o4⟩,gN,ak⟩:=aB
  have hJ:e∈z.a_:=by rw[af];simp
  rw[gN]
  obtain⟨dK,dR⟩:=h.hm.Ml af u.val (pre++{e with val:=u.val}::post)
  have key:∀(bj:c3) (dV:kV) (rx:Nat),bj.cJ=false->dn (.lay (bj,dV)) (vs j)=⟨.hold 0,0,0,vs j,false⟩->(dZ bj.key/\dZ bj.val)->lk p (a.put e.h 1 u.val) {z with a_:=pre++{e with val:=u.val}::post,hx:=pre++{e with val:=u.val}::post} j bj dV rx->iN (.lay (bj,dV))<=0->rx<r j->s0 p an ar a8 z s vs aX aS N r j (a.put e.h 1 u.val) (xV bj dV) (vs j):=fun bj dV rx aH hv aC aA fi K8=>by
   rw[n_ bj dV aH]
   refine .dec cH (h.inner ax (by rw[aa];rfl) dK ⟨rfl,rfl⟩ (by rw[hv]) rfl rfl (List.Perm.refl _) ?_ ?_ ih ?_ (fun ay i aC au=>⟨au,dR ay (by rw[au];simp)⟩) (rx:=rx) ⟨aC,aH,aA⟩ ?_ (.inl g_) K8)
   .rw[hv,aa,af];show((pre++{e with val:=u.val}::post).length:Int)+0- ((pre++e::post).length+0)=z.L-z.L;simp
   .rw[hv];show 0<=((pre++{e with val:=u.val}::post).length:Int)+0;omega
   .intro v;rw[hv,aa]
    show bZ v ((pre++{e with val:=u.val}::post).map (·.val))+bZ v (vs j)<=bZ v (z.hx.map (·.val))+bZ v (u.val::vs j)
    rw[vO,af,AG,AG,rB v u.val (vs j)]
    have:=sh v [e.val]
    dsimp only
    omega
   .rw[aa];show a.m.made+iN _<=a.m.made+0;omega
  refine⟨fD,⟨_,h.hm.rd_val hJ⟩,fun _=>?_,fun bp=>?_⟩
  .exact key _ _ 1 hf rfl ⟨eF,fD⟩ rfl (Int.le_refl _) I
  .exact key _ _ 6 hf rfl ⟨eF,fD⟩ ⟨pre,{e with val:=u.val},post,⟨rfl,fh,o4⟩,rfl,rfl,rfl⟩ (Int.le_refl _) I
 |jo=>
  simp only[lk]at aB
  simp only[kO]
  have cH:¬fj z (s j):=by rw[aa];simp[fj]
  obtain⟨pre,e,post,⟨af,fh,o4⟩,gN,Gf,ak⟩:=aB
  rw[gN]
  exact⟨_,h.hm.aeH af,nf _ _ 5 hf (by rw[aa];rfl) cH ⟨eF,fD⟩ ⟨pre,e,post,⟨af,fh,o4⟩,rfl,Gf,rfl,rfl⟩ (by rw[aa];exact Int.le_refl _) I⟩
 |j9 x=>
  simp only[lk]at aB
  simp only[kO]
  have cH:¬fj z (s j):=by rw[aa];simp[fj]
  obtain⟨pre,e,post,⟨af,fh,o4⟩,gN,Gf,rfl,ak⟩:=aB
  have hJ:e∈z.a_:=by rw[af];simp
  have hB:=h.hm.u6 (pre:=pre) (post:=e::post) af
  obtain⟨dK,dR,tr⟩:=h.hm.cut af (.lay j) aM (pre++post)
  rw[<-fh]at hB dK dR tr
  refine⟨G8 h.hm (pre:=pre++[e]) (by rw[af];simp),⟨_,hB⟩,?_⟩
  rw[n_ _ _ (by exact hf)]
  have kK:=h.hm.e7 e hJ
  have py:∀ay i,z.own ay= .lay i->ay≠p.R:=fun ay i au e=>by rw[e,h.hm.et]at au;simp at au
  obtain⟨cP,qd⟩:=h.hm.x9 hJ
  refine .dec cH (h.inner ax (by rw[aa];rfl) dK ⟨rfl,rfl⟩ rfl rfl rfl (List.Perm.refl _) ?_ ?_ ih ?_ (fun ay i aC au=>⟨?_,dR ay (by rw[au];simp) (py ay i au)⟩) (rx:=4) ⟨⟨eF,fD⟩,hf,e.key,cP,?_,?_,rfl⟩ ?_ (.inl g_) I)
  .rw[aa,af];show((pre++post).length:Int)+1- ((pre++e::post).length+0)=z.L-z.L;simp<;>omega
  .show 0<=((pre++post).length:Int)+1;omega
  .intro v;rw[aa]
   show bZ v ((pre++post).map (·.val))+bZ v (u.val::vs j)<=bZ v (z.hx.map (·.val))+bZ v (vs j)
   rw[vO,af,AG,List.map_append,rA,rB v u.val (vs j),Gf];omega
  .show ez z.own e.h (.lay j) ay= .lay i
   have:ay≠e.h:=fun aD=>by rw[aD,kK]at au;simp at au
   rw[dT _ _ this];exact au
  .show ez z.own e.h (.lay j) u.a7= .lay j
   rw[gN];exact h' _ _ _
  .show(a.put u.bk u.bo (di post 0)).ws u.a7=_
   rw[gN]
   have aD:=tr.trans qd
   rw[Gf]at aD
   exact aD
  .rw[aa];exact Int.le_refl _
 |tY=>
  simp only[lk]at aB
  simp only[kO]
  have cH:¬fj z (s j):=by rw[aa];simp[fj]
  obtain⟨key,x,au,hw,ak⟩:=aB
  exact⟨_,h.hm.BT,nf _ _ 3 hf (by rw[aa];rfl) cH ⟨eF,fD⟩ ⟨key,x,au,hw,rfl,rfl⟩ (by rw[aa];exact Int.le_refl _) I⟩
 |tW x=>
  simp only[lk]at aB
  simp only[kO]
  have cH:¬fj z (s j):=by rw[aa];simp[fj]
  obtain⟨key,cP,au,hw,rfl,ak⟩:=aB
  refine⟨G8 h.hm (pre:=[]) rfl,⟨cP,lO hw I rfl⟩,?_⟩
  refine hV _ _ _ _ _ 2 au hf (by rw[aa];rfl) cH ⟨eF,fD⟩ ⟨key,au,?_,rfl⟩ (by rw[aa];exact Int.le_refl _) I
  show(a.put u.a7 2 (di z.a_ 0)).ws u.a7=_
  rw[oo,hw];simp
 |tX=>
  simp only[lk]at aB
  simp only[kO]
  have cH:¬fj z (s j):=by rw[aa];simp[fj]
  obtain⟨key,au,hw,ak⟩:=aB
  have y5:IntKind.wrap .u64 u.a7=u.a7:=by
   have:=h.hm.of u.a7 (by rw[au];simp)
   exact wrap_u64 I I
  obtain⟨dK,dR⟩:=h.hm.front au hw (⟨u.a7,key,u.val⟩::z.a_)
  have py:∀ay i,z.own ay= .lay i->ay≠p.R:=fun ay i au e=>by rw[e,h.hm.et]at au;simp at au
  rw[y5]
  refine⟨⟨_,h.hm.BT⟩,?_⟩
  rw[n_ _ _ (by exact hf)]
  refine .dec cH (h.inner ax (by rw[aa];rfl) dK ⟨rfl,rfl⟩ rfl rfl rfl (List.Perm.refl _) ?_ ?_ ih ?_ (fun ay i aC qV=>⟨?_,dR ay (py ay i qV)⟩) (rx:=1) ⟨⟨eF,fD⟩,hf,rfl⟩ ?_ (.inl g_) I)
  .rw[aa];show((⟨u.a7,key,u.val⟩::z.a_:List dP).length:Int)+0- (z.a_.length+1)=z.L-z.L;simp
  .show 0<=((⟨u.a7,key,u.val⟩::z.a_:List dP).length:Int)+0;omega
  .intro v;rw[aa]
   show bZ v (u.val::z.a_.map (·.val))+bZ v (vs j)<=bZ v (z.hx.map (·.val))+bZ v (u.val::vs j)
   rw[vO,rB v u.val (z.a_.map (·.val)),rB v u.val (vs j)];omega
  .show ez z.own u.a7 (.room 0) ay= .lay i
   have:ay≠u.a7:=fun aD=>by rw[aD,au]at qV;simp at qV;exact aC qV.symm
   rw[dT _ _ this];exact qV
  .rw[aa];exact Int.le_refl _
end
