/- Part of the proof of BatchOnce, for every input. -/
import Derived.Test.YtobokeclhlbnmaaGreatB17
set_option linter.all false
namespace Go.Proofs.Run
open Go Go.Abs
section
abbrev jU:=w7 jd ot gD
def bU(x:jU)(vs:List Int):jb:=
 match x with
 | .none=>⟨.none,0,0,vs,false⟩
 | .lay u=>⟨(cD u).cd,(cD u).aC,(cD u).cS,(cD u).vs++vs,(cD u).hZ⟩
 | .b_ k v=>
   match v.aY with
   | .draw=>⟨.none,0,0,vs,false⟩
   | .wait t=>⟨.wait k t,0,0,vs,false⟩
   |_=>⟨.hold k,0,0,vs,false⟩
 | .stay k _ _ _=>⟨.hold k,0,0,vs,false⟩
 | .take k r _ _=>
   match r with
   | .take u=>
     match u.aY with
     | .jY=>⟨.hold k,1,0,vs,false⟩
     | .val=>⟨.hold k,1,0,vs,false⟩
     | .dec=>⟨.hold k,1,0,vs,true⟩
     | .jo=>⟨.hold k,0, -1,vs,true⟩
     | .j9 _=>⟨.hold k,0, -1,vs,true⟩
     |_=>⟨.hold k,0,0,vs,false⟩
   | .leave _ _ _=>⟨.hold k,0,0,vs,false⟩
 | .leave k _=>⟨.hold k,0,0,vs,false⟩
def ate(p:ew)(z:kA)(k:Int)(v:jd)(r:Nat):Prop:=
 v.room=k/\
 match v.aY with
 | .draw=>v.keys=[]/\v.gH=[]/\r=14*p.E.toNat+8
 | .wait _=>v.keys=[]/\v.gH=[]/\r=14*p.E.toNat+7
 | .go=>v.keys=[]/\v.gH=[]/\r=14*p.E.toNat+6
 | .load=>∃pre post,z.a_ k=pre++post/\(v.bk,v.bo)=addr p.R k pre/\v.gH=pre.map (·.h)/\v.keys.length=pre.length/\r=12*(z.a_ k).length+2*post.length+4
 | .ask=>∃pre e post,z.a_ k=pre++e::post/\v.a7=e.h/\v.gH=pre.map (·.h)/\v.keys.length=pre.length/\r=12*(z.a_ k).length+2*post.length+5
 | .done=>False
def NY(p:ew)(z:kA)(k:Int)(u:lj)(i c:Nat)(r:Nat):Prop:=
 (u.b_.room=k/\u.b_.aY= .done)/\∃e post,z.a_ k=e::post/\c=post.length+1/\u.a7=e.h/\(u.bk=p.R/\u.bo=bW k+2)/\(u.b_.keys.length=i+c/\i+c<=64)/\
 match u.aY with
 | .start oG=>oG=i/\u.b_.gH=List.replicate i 0++(e::post).map (·.h)/\r=12*c+3
 | .jY=>u.b_.gH=List.replicate (i+1) 0++post.map (·.h)/\r=12*post.length+14
 | .val=>u.b_.gH=List.replicate (i+1) 0++post.map (·.h)/\r=12*post.length+13
 | .dec=>u.b_.gH=List.replicate (i+1) 0++post.map (·.h)/\r=12*post.length+12
 | .jo=>u.b_.gH=List.replicate (i+1) 0++post.map (·.h)/\r=12*post.length+7
 | .j9 w=>w=di post 0/\u.b_.gH=List.replicate (i+1) 0++post.map (·.h)/\r=12*post.length+6
 | .done=>False
def pi(p:ew)(a:aE)(z:kA)(j:Nat)(x:jU)(r:Nat):Prop:=
 match x with
 | .none=>r=0
 | .lay u=>yw p a z j u r/\u.aY≠ .done
 | .b_ k v=>(0<=k/\k<p.B)/\ate p z k v r
 | .stay k v i c=>(0<=k/\k<p.B)/\v.room=k/\v.aY= .done/\(z.a_ k).length=c/\v.gH=List.replicate i 0++(z.a_ k).map (·.h)/\(v.keys.length=i+c/\i+c<=64)/\r=12*c+3
 | .take k (.take u) i c=>(0<=k/\k<p.B)/\NY p z k u i c r
 | .take k (.leave _ _ _) i c=>False
 | .leave k (.leave room e d)=>(0<=k/\k<p.B)/\room=k/\d=false/\r=1
 | .leave k (.take _)=>False
theorem pi.frame{p:ew}{a a':aE}{z z':kA}{j:Nat}{x:jU}{r:Nat}{vs:List Int}(h:pi p a z j x r)(gf:∀k,(bU x vs).cd= .hold k->z'.a_ k=z.a_ k)(au:∀ay,z.own ay= .lay j->z'.own ay= .lay j/\a'.ws ay=a.ws ay):
 ∃r',pi p a' z' j x r'/\r'<=r+2/\(z'.L=z.L\/(∀l,x≠ .lay l)->r'=r):=by
 cases x with
 |none=>exact⟨r,h,I,fun _=>rfl⟩
 |lay u=>
  obtain⟨J,U⟩:=h
  obtain⟨r',aq,aK,bx⟩:=J.frame (a':=a') (z':=z') gf au
  exact⟨r',⟨aq,U⟩,aK,fun h=>bx (h.resolve_right fun h=>h u rfl)⟩
 |b_ k v=>
  refine⟨r,⟨h.1,h.2.1,?_⟩,I,fun _=>rfl⟩
  have U:=h.2.2
  simp only[bU]at gf
  cases aB:v.aY<;>simp only[aB]at U gf |- <;>first|exact U|(rw[gf k rfl];exact U)
 |stay k v i c=>
  refine⟨r,?_,I,fun _=>rfl⟩
  have e:=gf k rfl
  simp only[pi]at h |-
  rw[e];exact h
 |take k R i c=>
  cases R with
  |leave room e d=>exact h.elim
  |take u=>
   refine⟨r,?_,I,fun _=>rfl⟩
   have e:z'.a_ k=z.a_ k:=gf k (by simp only[bU];split<;>rfl)
   simp only[pi,NY]at h |-
   rw[e];exact h
 |leave k R=>
  cases R with
  |take u=>exact h.elim
  |leave room e d=>exact⟨r,h,I,fun _=>rfl⟩
def dx(p:ew)(z:kA)(x:jU):Prop:=
 match x with
 | .lay u=>match u.aY with
   | .wait t=>z.bM u.room≠t
   | .space=>p.E<=z.L/\z.H≠0
   |_=>False
 | .b_ k v=>match v.aY with
   | .wait t=>z.bM k≠t
   |_=>False
 |_=>False
def h0(u:gD):Int:=
 match u.aY with
 | .draw=>1
 | .wait _=>1
 | .go=>1
 | .load=>1
 | .ask=>1
 | .make=>1
 | .space=>if u.made=0 then 1 else 0
 |_=>0
def fi(x:jU):Int:=
 match x with
 | .lay u=>h0 u
 |_=>0
theorem NF(u:gD):0<=h0 u/\h0 u<=1:=by
 unfold h0;split<;>first|omega|(split<;>omega)
theorem DH(x:jU):0<=fi x/\fi x<=1:=by
 cases x<;>simp only[fi]<;>first|exact NF _|omega
structure Kept(a' a:aE):Prop where
 i':(a'.an,a'.ar)=(a.an,a.ar)
 ins:(a'.inside,a'.hq)=(a.inside,a.hq)
structure ev(p:ew)(an ar:Nat)(a8:List Int)(a:aE)(z:kA)(s:Nat->jU)(vs:Nat->List Int)(aX:List Int)(aS N:Int)(r:Nat->Nat):Prop where
 hm:ei p a z
 aQ:hS p.B.toNat p.E z.a_ z.cY z.bM z.L z.H (fun j=>bU (s j) (vs j)) aX aS N
 loc:∀j,j<5->pi p a z j (s j) (r j)
 md:a.m.made+jR (fun j=>fi (s j))<=1+aS
 iZ:0<=aS/\aS<=2000
 dF:0<=N
 i':a.an=an/\a.ar=ar
 ins:a.inside=a8/\a.hq=5
 lI:∀j,j<3->∀l,s j≠ .lay l
 pc:1<=p.E/\p.E<=64
variable{p:ew}{an ar:Nat}{a8:List Int}{a:aE}{z:kA}{s:Nat->jU}{vs:Nat->List Int}{aX:List Int}{aS N:Int}{r:Nat->Nat}{j:Nat}
theorem ev.made(h:ev p an ar a8 a z s vs aX aS N r):a.m.made<=2001:=by
 have J:=h.md
 have U:=h.iZ
 have:0<=jR (fun j=>fi (s j)):=(E1 (j:=0) I fun i _=>(DH (s i)).1).2
 omega
theorem ev.Le(s:Nat->jU)(vs:Nat->List Int)(j:Nat)(x:jU)(vx:List Int):(fun i=>bU (bT s j x i) (bT vs j vx i))=bT (fun i=>bU (s i) (vs i)) j (bU x vx):=by
 funext i;by_cases h:i=j
 .subst h;simp[bT]
 .simp[bT,h]
theorem ev.step(h:ev p an ar a8 a z s vs aX aS N r)(ax:j<5){x:jU}{vx:List Int}{a':aE}{z':kA}{rx:Nat}(dK:ei p a' z')(ob:Kept a' a)
 (vB:hS p.B.toNat p.E z'.a_ z'.cY z'.bM z'.L z'.H (bT (fun i=>bU (s i) (vs i)) j (bU x vx)) aX aS (N+1))
 (gf:∀k,z'.a_ k=z.a_ k\/(bU (s j) (vs j)).cd= .hold k)
 (hV:∀ay i,i≠j->z.own ay= .lay i->z'.own ay= .lay i/\a'.ws ay=a.ws ay)
 (o_:pi p a' z' j x rx) (e6:a'.m.made+fi x<=a.m.made+fi (s j)) (dQ:3<=j\/∀l,x≠ .lay l)
 (tn:(z'.L=z.L/\rx<r j)\/rx+4<r j\/(3<=j/\rx+2<r j)):
 ∃z' r',ev p an ar a8 a' z' (bT s j x) (bT vs j vx) aX aS (N+1) r'/\e2 r'<e2 r:=by
 have hg:∀i,∃en,i<5->i≠j->pi p a' z' i (s i) en/\en<=r i+2/\(z'.L=z.L\/(∀l,s i≠ .lay l)->en=r i):=fun i=>by
  by_cases aC:i<5
  .by_cases fq:i=j
   .exact⟨0,fun _ h=>absurd fq h⟩
   .obtain⟨en,J⟩:=(h.loc i aC).frame (a':=a') (z':=z') (vs:=vs i) (fun k ah=>(gf k).elim id fun qS=>by
     have j2:=h.aQ.mW i aC
     simp only[ah]at j2
     exact absurd ((h.aQ.cd k j2.1 j2.2).1.H4 aC ax ah qS) fq) fun ay au=>hV ay i fq au
    exact⟨en,fun _ _=>J⟩
  .exact⟨0,fun h=>absurd h aC⟩
 obtain⟨f,aV⟩:=Classical.axiomOfChoice hg
 have pw:=h.lI
 refine⟨z',bT f j rx,⟨dK,by rw[ev.Le];exact vB,fun i aC=>?_,?_,h.iZ,by have:=h.dF;omega,by have:=ob.i';simp only[Prod.mk.injEq]at this;rw[this.1,this.2];exact h.i',by have:=ob.ins;simp only[Prod.mk.injEq]at this;rw[this.1,this.2];exact h.ins,fun i aC l=>?_,h.pc⟩,?_⟩
 .by_cases fq:i=j
  .subst fq;rw[ek,ek];exact o_
  .rw[gL _ _ fq,gL _ _ fq];exact(aV i aC fq).1
 .rw[sR (w:=fi) ax x]
  have:=h.md;omega
 .by_cases fq:i=j
  .subst fq;rw[ek];exact(dQ.resolve_left I) l
  .rw[gL _ _ fq];exact h.lI i aC l
 .have aa:=tQ (r:=f) ax rx
  have Ul:=fun bp=>aV 0 I bp
  have c6:=fun bp=>aV 1 I bp
  have cO:=fun bp=>aV 2 I bp
  have fc:=fun bp=>aV 3 I bp
  have kR:=fun bp=>aV 4 I bp
  have rS:=pw 0 I
  have tv:=pw 1 I
  have qf:=pw 2 I
  have cZ:=fun bp=>(Ul bp).2.2 (.inr rS)
  have aD:=fun bp=>(c6 bp).2.2 (.inr tv)
  have aJ:=fun bp=>(cO bp).2.2 (.inr qf)
  have b3:=fun bp=>(fc bp).2.1
  have ox:=fun bp=>(kR bp).2.1
  have eu:=fun bp m6=>(fc bp).2.2 (.inl m6)
  have jH:=fun bp m6=>(kR bp).2.2 (.inl m6)
  clear aV hg Ul c6 cO fc kR
  unfold e2 at aa |-
  match j,ax with
  |0,_=>
   have:=aD I;have:=aJ I;have:=b3 I;have:=ox I
   rcases tn with⟨m6,h⟩|h|h
   .have:=eu I m6;have:=jH I m6;omega
   .omega
   .omega
  |1,_=>
   have:=cZ I;have:=aJ I;have:=b3 I;have:=ox I
   rcases tn with⟨m6,h⟩|h|h
   .have:=eu I m6;have:=jH I m6;omega
   .omega
   .omega
  |2,_=>
   have:=cZ I;have:=aD I;have:=b3 I;have:=ox I
   rcases tn with⟨m6,h⟩|h|h
   .have:=eu I m6;have:=jH I m6;omega
   .omega
   .omega
  |3,_=>
   have:=cZ I;have:=aD I;have:=aJ I;have:=ox I
   rcases tn with⟨m6,h⟩|h|h
   .have:=jH I m6;omega
   .omega
   .omega
  |4,_=>
   have:=cZ I;have:=aD I;have:=aJ I;have:=b3 I
   rcases tn with⟨m6,h⟩|h|h
   .have:=eu I m6;omega
   .omega
   .omega
theorem ev.wait(h:ev p an ar a8 a z s vs aX aS N r)(ax:j<5){x:jU}(hv:bU x (vs j)=bU (s j) (vs j))(o_:pi p a z j x (r j))(e6:fi x<=fi (s j))(dQ:3<=j\/∀l,x≠ .lay l):
 ev p an ar a8 a.tick z (bT s j x) vs aX aS (N+1) r:=by
 refine⟨h.hm.tick,?_,fun i aC=>?_,?_,h.iZ,by have:=h.dF;omega,h.i',h.ins,fun i aC l=>?_,h.pc⟩
 .have e:=ev.Le s vs j x (vs j)
  rw[gz]at e
  rw[e,hv,gz (fun i=>bU (s i) (vs i)) j]
  exact h.aQ.tick
 .have hg:∀y,pi p a z i y (r i)->pi p a.tick z i y (r i):=fun y ai=>by
   obtain⟨r',J,_,aq⟩:=ai.frame (a':=a.tick) (z':=z) (vs:=vs i) (fun _ _=>rfl) (fun ay au=>⟨au,rfl⟩)
   rw[aq (.inl rfl)]at J;exact J
  by_cases fq:i=j
  .subst fq;rw[ek];exact hg _ o_
  .rw[gL _ _ fq];exact hg _ (h.loc i aC)
 .rw[sR (w:=fi) ax x]
  have:=h.md
  show a.m.made+_<=_
  omega
 .by_cases fq:i=j
  .subst fq;rw[ek];exact(dQ.resolve_left I) l
  .rw[gL _ _ fq];exact h.lI i aC l
end
section
variable{p:ew}{an ar:Nat}{a8:List Int}{a:aE}{z:kA}{s:Nat->jU}{vs:Nat->List Int}{aX:List Int}{aS N:Int}{r:Nat->Nat}{j:Nat}{k:Int}
theorem asS{x:Int}(h:0<=x)(U:x<18446744073709551616):IntKind.wrap .u64 (x+18446744073709551616)=x:=by
 unfold IntKind.wrap
 simp[IntKind.signed,IntKind.bits]
 omega
theorem ev.x2(h:ev p an ar a8 a z s vs aX aS N r)(aF:N<1000000000):(0<=z.L/\z.L<=p.E)/\(0<=z.H/\z.H<=5)/\dZ (z.L+4294967296*z.H)/\(z.L+4294967296*z.H)%4294967296=z.L/\(z.L+4294967296*z.H).fdiv (2 ^ 32)=z.H:=by
 have J:=h.aQ.N7
 have U:=h.aQ.LE
 have aq:=h.aQ.H
 have aK:∀i,i<5->0<=(bU (s i) (vs i)).aC/\(bU (s i) (vs i)).aC<=1:=fun i aC=>h.aQ.aC i aC
 have FF:=aK 0 I
 have cR:=aK 1 I
 have b7:=aK 2 I
 have fF:=aK 3 I
 have gx:=aK 4 I
 have bx:=h.pc
 simp only[jR]at aq
 refine⟨⟨J,U⟩,⟨I,I⟩,⟨I,I⟩,I,?_⟩
 rw[Int.fdiv_eq_ediv_of_nonneg _ (by decide),show((2:Int) ^ 32)=4294967296 by decide]
 omega
theorem ev.Nz(h:ev p an ar a8 a z s vs aX aS N r)(aF:N<1000000000)(ah:0<=k/\k<p.B):(0<=z.bM k/\z.bM k<=z.cY k/\z.cY k<=N)/\fy (z.cY k) iw 1=z.cY k+1/\fy (z.bM k) iw 1=z.bM k+1:=by
 have cy:=h.hm.cy
 obtain⟨J,U⟩:=h.aQ.cd k ah.1 I
 have aq:=J.le
 have e:∀w:Int,0<=w->w<1000000000->fy w iw 1=w+1:=fun w aK bx=>by
  rw[xm ⟨aK,I⟩ ⟨by decide,by decide⟩,sU ⟨I,I⟩]
 exact⟨⟨aq.1,aq.2,U⟩,e _ I I,e _ aq.1 I⟩
theorem ev.len(h:ev p an ar a8 a z s vs aX aS N r)(ax:j<5)(aA:(bU (s j) (vs j)).cd= .hold k)(pu:(bU (s j) (vs j)).cS=0):(z.a_ k).length<=p.E.toNat:=by
 have J:=h.aQ.len ax aA pu
 have U:=h.aQ.LE
 omega
theorem ei.uN(h:ei p a z){e:dP}(he:e∈z.a_ k):IntKind.wrap .i64 e.h=e.h/\e.h≠0/\IntKind.wrap .u64 e.h=e.h:=by
 have:=h.n3 he
 exact⟨wrap_i64 I I,I,wrap_u64 I I⟩
theorem Pj(R k:Int)(pre:List dP)(e:dP):addr R k (pre++[e])=(e.h,0):=by simp[addr]
theorem Rt(h:ei p a z){pre post:List dP}(af:z.a_ k=pre++post):(post=[]/\IntKind.wrap .i64 (di post 0)=0)\/∃e l,post=e::l/\IntKind.wrap .i64 (di post 0)=e.h/\e.h≠0:=by
 cases post with
 |nil=>exact .inl ⟨rfl,by rfl⟩
 |cons e l=>
  have:=h.uN (k:=k) (e:=e) (by rw[af];simp)
  exact .inr ⟨e,l,rfl,this.1,this.2.1⟩
theorem AG(v:Int)(pre post:List dP)(e:dP):bZ v ((pre++e::post).map (·.val))=bZ v (pre.map (·.val))+(bZ v [e.val]+bZ v (post.map (·.val))):=by
 rw[List.map_append,List.map_cons,rA,rB];omega
theorem hS.same{B:Nat}{E:Int}{a_:Int->List dP}{cY bM:Int->Int}{L H:Int}{cN:Nat->jb}{x:jb}(h:hS B E a_ cY bM L H cN aX aS N)(aj:x=cN j):hS B E a_ cY bM L H (bT cN j x) aX aS (N+1):=by
 rw[aj,gz];exact h.tick
def sb(p:ew)(an ar:Nat)(a8:List Int)(z:kA)(s:Nat->jU)(vs:Nat->List Int)(aX:List Int)(aS N:Int)(r:Nat->Nat)(j:Nat)(a':aE)(x:jU)(vx:List Int):Prop:=
 ∃z' r',ev p an ar a8 a' z' (bT s j x) (bT vs j vx) aX aS (N+1) r'/\(dx p z (s j)->z'=z/\dx p z x/\r'=r)/\(¬dx p z (s j)->e2 r'<e2 r)
theorem sb.dec{a':aE}{x:jU}{vx:List Int}(hw:¬dx p z (s j))(h:∃z' r',ev p an ar a8 a' z' (bT s j x) (bT vs j vx) aX aS (N+1) r'/\e2 r'<e2 r):sb p an ar a8 z s vs aX aS N r j a' x vx:=by
 obtain⟨z',r',J,U⟩:=h
 exact⟨z',r',J,fun h=>absurd h hw,fun _=>U⟩
theorem sb.wait{x:jU}(hw:dx p z (s j))(h:ev p an ar a8 a.tick z (bT s j x) vs aX aS (N+1) r)(aj:dx p z x):sb p an ar a8 z s vs aX aS N r j a.tick x (vs j):=
 ⟨z,r,by rw[gz];exact h,fun _=>⟨rfl,aj,rfl⟩,fun h=>absurd hw h⟩
def n_(u:gD):jU:=bif u.aY.hL then .none else .lay u
theorem ev.wQ(h:ev p an ar a8 a z s vs aX aS N r)(ax:j<5)(g_:3<=j){u bj:gD}(aa:s j= .lay u)(hw:¬dx p z (s j)){rx:Nat}(hv:cD bj=cD u)(aA:yw p a z j bj rx)(aH:bj.aY≠ .done)(fi:h0 bj<=h0 u)(ak:rx<r j):sb p an ar a8 z s vs aX aS N r j a.tick (.lay bj) (vs j):=by
 refine .dec hw (h.step ax h.hm.tick ⟨rfl,rfl⟩ (h.aQ.same ?_) (fun _=>.inl rfl) (fun _ _ _ h=>⟨h,rfl⟩) ⟨?_,aH⟩ ?_ (.inl g_) (.inl ⟨rfl,ak⟩))
 .rw[aa];simp only[bU,hv]
 .obtain⟨r',J,_,aq⟩:=aA.frame (a':=a.tick) (z':=z) (fun _ _=>rfl) (fun ay au=>⟨au,rfl⟩)
  rw[aq rfl]at J;exact J
 .rw[aa];show a.m.made+h0 bj<=a.m.made+h0 u;omega
theorem ev.z9(h:ev p an ar a8 a z s vs aX aS N r)(ax:j<5)(g_:3<=j){u:gD}(aa:s j= .lay u){k:Int}(eU:(cD u).cd= .hold k)(hw:¬dx p z (s j)){bj:gD}{a':aE}{z':kA}{rx:Nat}{l':List dP}
 (dK:ei p a' z') (ob:Kept a' a) (Dy:(cD bj).cd= .hold k) (gf:z'.a_=ez z.a_ k l') (zn:z'.cY=z.cY) (fU:z'.bM=z.bM)
 (af:(l'.length:Int)+(cD bj).cS- ((z.a_ k).length+(cD u).cS)=z'.L-z.L) (nc:0<=(l'.length:Int)+(cD bj).cS) (ih:z'.L<=p.E) (te:z'.H=z.H) (y8:(cD u).aC=0/\(cD bj).aC=0)
 (hv:∀v,bZ v (k9 (cD bj).hZ l')+bZ v (cD bj).vs<=bZ v (k9 (cD u).hZ (z.a_ k))+bZ v (cD u).vs)
 (hV:∀ay i,i≠j->z.own ay= .lay i->z'.own ay= .lay i/\a'.ws ay=a.ws ay) (aA:yw p a' z' j bj rx) (aH:bj.aY≠ .done) (fi:a'.m.made+h0 bj<=a.m.made+h0 u) (ak:(z'.L=z.L/\rx<r j)\/rx+2<r j):
 sb p an ar a8 z s vs aX aS N r j a' (.lay bj) (vs j):=by
 refine .dec hw (h.step ax dK ob ?_ (fun a9=>?_) hV ⟨aA,aH⟩ (by rw[aa];exact fi) (.inl g_) (ak.imp id fun h=>.inr ⟨g_,h⟩))
 .rw[gf,zn,fU]
  refine h.aQ.inner ax (k:=k) ?_ ?_ ?_ ?_ ih ?_ ?_ ?_
  .rw[aa];exact eU
  .exact Dy
  .rw[aa];exact af
  .exact nc
  .rw[aa];simp only[bU,y8.1,y8.2,te];omega
  .simp only[bU,y8.2];omega
  .intro v
   have:=hv v
   rw[aa];simp only[bU,rA];omega
 .by_cases e:a9=k
  .right;rw[aa,e];exact eU
  .left;rw[gf,dT _ _ e]
theorem aAd(h:ev p an ar a8 a z s vs aX aS N r)(ax:j<5)(aF:N<1000000000){u:gD}(aa:s j= .lay u):u.aY≠ .done/\lY p a {u with bH:=false} (fun a' bj=>sb p an ar a8 z s vs aX aS N r j a' (n_ bj) (vs j)):=by
 have g_:3<=j:=by
  rcases Nat.lt_or_ge j 3 with aq|aq
  .exact absurd aa (h.lI j aq u)
  .exact aq
 have lE:=h.loc j ax
 rw[aa]at lE
 obtain⟨⟨⟨eF,fD⟩,⟨d_,dL⟩,aB⟩,gO⟩:=lE
 refine⟨gO,?_⟩
 have cy:=h.hm.cy
 have mJ:=h.pc
 have fQ:0<=u.room/\u.room<1000:=⟨d_,I⟩
 obtain⟨⟨uy,ih⟩,⟨Q8,Q9⟩,xB,uH,hdiv⟩:=h.x2 aF
 obtain⟨⟨Bf,rN,j3⟩,cL,h8⟩:=h.Nz aF ⟨d_,dL⟩
 have na:=h.made
 cases bh:u.aY with
 |done=>exact absurd bh gO
 |draw=>
  simp only[eH,bh]at aB
  simp only[lY,bh]
  have cH:¬dx p z (s j):=by rw[aa];simp[dx,bh]
  refine⟨_,h.hm.aeI d_ dL,?_⟩
  rw[cL]
  refine .dec cH (h.step ax (x:=.lay {u with bH:=false,aY:=.wait (z.cY u.room)}) (h.hm.Uj d_ dL _) ⟨rfl,rfl⟩ ?_ (fun _=>.inl rfl) (fun ay i aC au=>⟨au,hI fun e=>?_⟩) (rx:=17+2*p.E.toNat) ⟨⟨⟨eF,fD⟩,⟨d_,dL⟩,?_⟩,aM⟩ ?_ (.inl g_) (.inl ⟨rfl,I⟩))
  .refine h.aQ.draw ax ⟨d_,I⟩ ?_ ?_ h.iZ.1 ?_ ?_ ?_
   .rw[aa];simp[bU,cD,bh]
   .rw[aa];simp[bU,cD,bh]
   .simp[bU,cD]
   .simp[bU,cD]
   .intro v;rw[aa];simp[bU,cD,bh]
  .rw[e,h.hm.et]at au;simp at au
  .simp only[eH];exact⟨aB.1,by trivial⟩
  .rw[aa];simp[fi,h0,bh,aE.put,ck.put,ck.tick]
 |wait bK=>
  simp only[eH,bh]at aB
  simp only[lY,bh]
  refine⟨fQ,_,h.hm.HN d_ dL,fun e=>?_,fun e=>?_⟩
  .have hw:dx p z (s j):=by rw[aa];simp only[dx,bh];exact e
   refine sb.wait (x:=.lay {u with bH:=false,aY:=.wait bK}) hw (h.wait ax ?_ ⟨⟨⟨eF,fD⟩,⟨d_,dL⟩,?_⟩,aM⟩ ?_ (.inl g_)) ?_
   .rw[aa];simp[bU,cD,bh]
   .simp only[eH];exact aB
   .rw[aa];simp[fi,h0,bh]
   .simp only[dx];exact e
  .have cH:¬dx p z (s j):=by rw[aa];simp only[dx,bh];exact fun h=>h e
   refine .dec cH (h.step ax (x:=.lay {u with bH:=false,aY:=.go}) h.hm.tick ⟨rfl,rfl⟩ ?_ (fun _=>.inl rfl) (fun ay i aC au=>⟨au,rfl⟩) (rx:=16+2*p.E.toNat) ⟨⟨⟨eF,fD⟩,⟨d_,dL⟩,?_⟩,aM⟩ ?_ (.inl g_) (.inl ⟨rfl,I⟩))
   .refine h.aQ.go (k:=u.room) ax ?_ ?_ ?_ ?_ ?_ ?_ ?_
    .rw[aa];simp[bU,cD,bh,e]
    .rw[aa];simp[bU,cD,bh]
    .simp[bU,cD]
    .simp[bU,cD]
    .simp[bU,cD]
    .simp[bU,cD]
    .intro v;rw[aa];simp[bU,cD,bh]
   .simp only[eH];exact⟨aB.1,by trivial⟩
   .rw[aa];simp[fi,h0,bh];exact Int.le_refl _
 |go=>
  simp only[eH,bh]at aB
  simp only[lY,bh]
  have cH:¬dx p z (s j):=by rw[aa];simp[dx,bh]
  have hlen:=h.len (k:=u.room) ax (by rw[aa];simp[bU,cD,bh]) (by rw[aa];simp[bU,cD,bh])
  refine⟨fQ,_,h.hm.HM d_ dL,?_⟩
  rcases Rt h.hm (k:=u.room) (pre:=[]) (post:=z.a_ u.room) rfl with⟨aD,aJ⟩|⟨e,l,aD,aJ,bP⟩
  .refine⟨fun _=>?_,fun bP=>absurd aJ bP⟩
   refine h.wQ ax g_ aa cH (rx:=14) (by simp[cD,bh]) ⟨⟨eF,fD⟩,⟨d_,dL⟩,?_⟩ aM (by simp[h0,bh,aB.1]) I
   simp only[eH]
   exact⟨[],[],⟨aD,by trivial⟩,by trivial,.inl ⟨aB.1,by trivial⟩⟩
  .rw[aJ]
   refine⟨fun g0=>absurd g0 bP,fun _=>?_⟩
   rw[aD]at hlen
   simp only[List.length_cons]at hlen
   refine h.wQ ax g_ aa cH (rx:=16+2*l.length) (by simp[cD,bh]) ⟨⟨eF,fD⟩,⟨d_,dL⟩,?_⟩ aM (by simp[h0,bh]) I
   simp only[eH]
   exact⟨aB.1,[],e,l,⟨aD,by trivial⟩,by trivial,by trivial⟩
 |load=>
  simp only[eH,bh]at aB
  simp only[lY,bh]
  have cH:¬dx p z (s j):=by rw[aa];simp[dx,bh]
  obtain⟨o5,pre,post,⟨af,fh⟩,ak⟩:=aB
  have hB:=h.hm.u6 d_ dL af
  rw[<-fh]at hB
  refine⟨_,hB,?_⟩
  rcases Rt h.hm af with⟨aD,aJ⟩|⟨e,l,aD,aJ,bP⟩
  .refine⟨fun _=>?_,fun bP=>absurd aJ bP⟩
   refine h.wQ ax g_ aa cH (rx:=14) (by simp[cD,bh]) ⟨⟨eF,fD⟩,⟨d_,dL⟩,?_⟩ aM (by simp[h0,bh,o5]) I
   simp only[eH]
   exact⟨pre,post,⟨af,fh⟩,by rw[aD];rfl,.inl ⟨o5,by trivial⟩⟩
  .rw[aJ]
   refine⟨fun g0=>absurd g0 bP,fun _=>?_⟩
   subst aD
   simp only[List.length_cons]at ak
   refine h.wQ ax g_ aa cH (rx:=16+2*l.length) (by simp[cD,bh]) ⟨⟨eF,fD⟩,⟨d_,dL⟩,?_⟩ aM (by simp[h0,bh]) I
   simp only[eH]
   exact⟨o5,pre,e,l,⟨af,fh⟩,by trivial,by trivial⟩
 |ask=>
  simp only[eH,bh]at aB
  simp only[lY,bh]
  have cH:¬dx p z (s j):=by rw[aa];simp[dx,bh]
  obtain⟨o5,pre,e,post,⟨af,fh⟩,gN,ak⟩:=aB
  have hJ:e∈z.a_ u.room:=by rw[af];simp
  rw[gN]
  refine⟨_,h.hm.rd_key hJ,fun aD=>?_,fun aD=>?_,fun aD=>?_⟩
  .refine h.wQ ax g_ aa cH (rx:=14) (by simp[cD,bh]) ⟨⟨eF,fD⟩,⟨d_,dL⟩,?_⟩ aM (by simp[h0,bh,o5]) I
   simp only[eH]
   exact⟨pre,e::post,⟨af,fh⟩,rfl,.inl ⟨o5,by trivial⟩⟩
  .refine h.wQ ax g_ aa cH (rx:=3) (by simp[cD,bh]) ⟨⟨eF,fD⟩,⟨d_,dL⟩,?_⟩ aM (by simp[h0,bh]) I
   simp only[eH]
   exact⟨pre,e,post,⟨af,fh⟩,rfl,by trivial⟩
  .refine h.wQ ax g_ aa cH (rx:=15+2*post.length) (by simp[cD,bh]) ⟨⟨eF,fD⟩,⟨d_,dL⟩,?_⟩ aM (by simp[h0,bh]) I
   simp only[eH]
   exact⟨o5,pre++[e],post,⟨by rw[af];simp,by rw[Pj]⟩,by trivial⟩
 |set=>
  simp only[eH,bh]at aB
  simp only[lY,bh]
  have cH:¬dx p z (s j):=by rw[aa];simp[dx,bh]
  obtain⟨pre,e,post,⟨af,fh⟩,gN,ak⟩:=aB
  have hJ:e∈z.a_ u.room:=by rw[af];simp
  rw[gN]
  refine⟨fD,_,h.hm.rd_val hJ,?_⟩
  obtain⟨dK,dR⟩:=h.hm.Ml af u.val
  refine h.z9 ax g_ aa (k:=u.room) (by simp[cD,bh]) cH (rx:=2) dK ⟨rfl,rfl⟩ (by simp[cD]) rfl rfl rfl ?_ ?_ ih rfl ?_ ?_ (fun ay i aC au=>⟨au,dR ay (by rw[au];simp)⟩) ⟨⟨eF,fD⟩,⟨d_,dL⟩,?_⟩ aM ?_ (.inl ⟨rfl,I⟩)
  .simp only[cD,bh,af];simp
  .simp only[cD];omega
  .simp[cD,bh]
  .intro v
   have:=sh v [e.val]
   simp only[cD,bh,k9,af,Bool.false_eq_true,if_false,AG,vu];omega
  .simp only[eH]
  .simp[h0,bh,aE.put,ck.put,ck.tick]
 |leave=>
  simp only[eH,bh]at aB
  simp only[lY,bh]
  have cH:¬dx p z (s j):=by rw[aa];simp[dx,bh]
  refine⟨fQ,_,h.hm.HN d_ dL,?_⟩
  rw[h8]
  refine .dec cH (h.step ax (x:=.none) (h.hm.Uk d_ dL _) ⟨rfl,rfl⟩ ?_ (fun _=>.inl rfl) (fun ay i aC au=>⟨au,hI fun e=>?_⟩) (rx:=0) rfl ?_ (.inl g_) (.inl ⟨rfl,I⟩))
  .refine h.aQ.leave (k:=u.room) ax ?_ ?_ ?_ ?_ ?_ ?_ ?_
   .rw[aa];simp[bU,cD,bh]
   .rw[aa];simp[bU,cD,bh]
   .rw[aa];simp[bU,cD,bh]
   .rw[aa];simp[bU,cD,bh]
   .rfl
   .rfl
   .intro v;rw[aa];simp[bU,cD,bh]
  .rw[e,h.hm.et]at au;simp at au
  .rw[aa];simp[fi,h0,bh,aE.put,ck.put,ck.tick]
 |space=>
  simp only[eH,bh]at aB
  simp only[lY,bh]
  obtain⟨pre,post,⟨af,fh⟩,gN,e6⟩:=aB
  have o5:0<=u.made:=by
   rcases e6 with h|h
   .omega
   .have:=h.1.1;omega
  have KO:gy (z.L+4294967296*z.H) 4294967295=z.L:=by rw[I6 xB,uH]
  refine⟨⟨I,I⟩,o5,fun xN=>?_,_,h.hm.HL,?_⟩
  .have aV:=e6.resolve_left fun h=>I
   exact⟨Ke aV.1.2.2,fun x aj e=>by have:=h.hm.ia x aj;rw[e,aV.1.2.1]at this;simp at this⟩
  rw[KO,hdiv]
  refine⟨fun aD aJ=>?_,fun aD aJ=>?_,fun aD aJ=>?_,fun aD aJ bP=>?_,fun aD aJ bP=>?_⟩
  .have aV:=e6.resolve_right fun h=>by have:=h.1.1;omega
   refine h.wQ ax g_ aa ?_ (rx:=13) (by simp[cD,bh]) ⟨⟨eF,fD⟩,⟨d_,dL⟩,?_⟩ aM (by simp[h0,bh,aJ]) I
   .rw[aa];simp only[dx,bh];omega
   .simp only[eH];exact⟨pre,post,⟨af,fh⟩,gN,aJ,⟨uy,aD⟩,by trivial⟩
  .have aV:=e6.resolve_left fun h=>aJ h.1
   refine h.wQ ax g_ aa ?_ (rx:=6) (by simp[cD,bh]) ⟨⟨eF,fD⟩,⟨d_,dL⟩,?_⟩ aM (by simp[h0,bh,aJ]) I
   .rw[aa];simp only[dx,bh];omega
   .simp only[eH];exact⟨pre,post,⟨af,fh⟩,gN,aV.1,⟨uy,aD⟩,aM⟩
  .have hw:dx p z (s j):=by rw[aa];simp only[dx,bh];exact⟨I,aJ⟩
   refine sb.wait (x:=.lay {u with bH:=false,fu:=z.L,aY:=.space}) hw (h.wait ax ?_ ⟨⟨⟨eF,fD⟩,⟨d_,dL⟩,?_⟩,aM⟩ ?_ (.inl g_)) ?_
   .rw[aa];simp[bU,cD,bh]
   .simp only[eH];exact⟨pre,post,⟨af,fh⟩,gN,e6⟩
   .rw[aa];simp[fi,h0,bh]
   .simp only[dx];exact⟨I,aJ⟩
  .have cH:¬dx p z (s j):=by rw[aa];simp only[dx,bh];exact fun h=>h.2 aJ
   refine h.z9 ax g_ aa (k:=u.room) (l':=z.a_ u.room) (z':=z) (by simp[cD,bh]) cH (rx:=2) h.hm.tick ⟨rfl,rfl⟩ (by simp[cD]) (by rw[wi]) rfl rfl ?_ ?_ ih rfl ?_ ?_ (fun ay i aC au=>⟨au,rfl⟩) ⟨⟨eF,fD⟩,⟨d_,dL⟩,?_⟩ aM ?_ (.inl ⟨rfl,I⟩)
   .simp only[cD,bh];simp
   .simp only[cD];omega
   .simp[cD,bh]
   .intro v
    have:=sh v [u.val]
    simp only[cD,bh,k9,Bool.false_eq_true,if_false,vu];omega
   .simp only[eH]
   .have:=(NF u).1
    show a.m.made+0<=_;omega
  .have aV:=e6.resolve_left fun h=>I
   have cH:¬dx p z (s j):=by rw[aa];simp only[dx,bh];exact fun h=>h.2 aJ
   obtain⟨dK,dR⟩:=h.hm.tick.free aV.1.2.1
   refine h.z9 ax g_ aa (k:=u.room) (l':=z.a_ u.room) (by simp[cD,bh]) cH (rx:=2) dK ⟨rfl,rfl⟩ (by simp[cD]) (by rw[wi]) rfl rfl ?_ ?_ ih rfl ?_ ?_ (fun ay i aC au=>?_) ⟨⟨eF,fD⟩,⟨d_,dL⟩,?_⟩ aM ?_ (.inl ⟨rfl,I⟩)
   .simp only[cD,bh];simp
   .simp only[cD];omega
   .simp[cD,bh]
   .intro v
    have:=sh v [u.val]
    simp only[cD,bh,k9,Bool.false_eq_true,if_false,vu];omega
   .have bp:ay≠u.made:=fun e=>by rw[e,aV.1.2.1]at au;simp at au;exact aC au.symm
    exact⟨by simp only[dT _ _ bp];exact au,by rw[dR ay bp];rfl⟩
   .simp only[eH]
   .have:=(NF u).1
    show(a.m.tick.jm u.made).made+0<=_
    rw[(D0 _ _).1];show a.m.made+0<=_;omega
 |make=>
  simp only[eH,bh]at aB
  simp only[lY,bh]
  have cH:¬dx p z (s j):=by rw[aa];simp[dx,bh]
  obtain⟨pre,post,⟨af,fh⟩,gN,o5,tq,ak⟩:=aB
  have KR:=h.hm.az.q1
  refine⟨⟨KR,I⟩,fun aD=>?_,fun aD b=>?_⟩
  .refine h.z9 ax g_ aa (k:=u.room) (l':=z.a_ u.room) (z':=z) (by simp[cD,bh]) cH (rx:=2) h.hm ⟨rfl,rfl⟩ (by simp[cD]) (by rw[wi]) rfl rfl ?_ ?_ ih rfl ?_ ?_ (fun ay i aC au=>⟨au,rfl⟩) ⟨⟨eF,fD⟩,⟨d_,dL⟩,?_⟩ aM ?_ (.inl ⟨rfl,I⟩)
   .simp only[cD,bh];simp
   .simp only[cD];omega
   .simp[cD,bh]
   .intro v
    have:=sh v [u.val]
    simp only[cD,bh,k9,Bool.false_eq_true,if_false,vu];omega
   .simp only[eH]
   .simp only[h0,bh];omega
  .obtain⟨dK,uK,dR,lG⟩:=h.hm.make I j b
   have bp:∀ay i,z.own ay= .lay i->ay≠a.m.made+1:=fun ay i au e=>by rw[e,lG]at au;simp at au
   refine h.z9 ax g_ aa (k:=u.room) (l':=z.a_ u.room) (by simp[cD,bh]) cH (rx:=12) dK ⟨rfl,rfl⟩ (by simp[cD]) (by rw[wi]) rfl rfl ?_ ?_ ih rfl ?_ ?_ (fun ay i aC au=>⟨by simp only[dT _ _ (bp ay i au)];exact au,dR ay (bp ay i au)⟩) ⟨⟨eF,fD⟩,⟨d_,dL⟩,?_⟩ aM ?_ (.inl ⟨rfl,I⟩)
   .simp only[cD,bh];simp
   .simp only[cD];omega
   .simp[cD,bh]
   .intro v
    simp[cD,bh]
   .simp only[eH]
    exact⟨pre,post,⟨af,fh⟩,gN,⟨I,by rw[h']⟩,tq,.inl ⟨by trivial,uK⟩,by trivial⟩
   .simp only[h0,bh];show a.m.made+1+0<=_;omega
 |fill i=>
  simp only[eH,bh]at aB
  simp only[lY,bh]
  have cH:¬dx p z (s j):=by rw[aa];simp[dx,bh]
  obtain⟨pre,post,⟨af,fh⟩,gN,⟨xH,DC⟩,tq,aBn,ak⟩:=aB
  have y5:IntKind.wrap .u64 u.a7=u.a7:=by
   rw[gN]
   cases post with
   |nil=>rfl
   |cons e l=>exact(h.hm.uN (k:=u.room) (e:=e) (by rw[af];simp)).2.2
  have od:∀(oG v:Int) (bj:gD) (rx:Nat),cD bj=cD u->bj.aY≠ .done->h0 bj<=h0 u->rx<r j->yw p (a.put u.made oG v) z j bj rx->sb p an ar a8 z s vs aX aS N r j (a.put u.made oG v) (.lay bj) (vs j):=fun oG v bj rx hv aH fi K8 aA=>by
   refine .dec cH (h.step ax (h.hm.Mk DC) ⟨rfl,rfl⟩ (h.aQ.same ?_) (fun _=>.inl rfl) (fun ay i2 p8 au=>⟨au,hI fun e=>?_⟩) ⟨aA,aH⟩ ?_ (.inl g_) (.inl ⟨rfl,K8⟩))
   .rw[aa];simp only[bU,hv]
   .rw[e,DC]at au;simp at au;exact p8 au.symm
   .rw[aa];show a.m.made+h0 bj<=a.m.made+h0 u;omega
  rcases aBn with⟨rfl,hw⟩|⟨rfl,hw⟩|⟨rfl,hw⟩
  .refine⟨I,eF,fD,0,lO hw I rfl,fun e=>absurd e I,fun e=>absurd e I,fun _=>?_⟩
   refine od _ _ _ 11 (by simp[cD,bh]) aM (by simp[h0,bh]) I ⟨⟨eF,fD⟩,⟨d_,dL⟩,?_⟩
   simp only[eH]
   exact⟨pre,post,⟨af,fh⟩,gN,⟨xH,DC⟩,tq,.inr (.inl ⟨by trivial,by rw[oo,hw];simp⟩),by trivial⟩
  .refine⟨I,eF,fD,0,lO hw I rfl,fun e=>absurd e I,fun _=>?_,fun e=>absurd e I⟩
   refine od _ _ _ 10 (by simp[cD,bh]) aM (by simp[h0,bh]) I ⟨⟨eF,fD⟩,⟨d_,dL⟩,?_⟩
   simp only[eH]
   exact⟨pre,post,⟨af,fh⟩,gN,⟨xH,DC⟩,tq,.inr (.inr ⟨by trivial,by rw[oo,hw];simp⟩),by trivial⟩
  .refine⟨I,eF,fD,0,lO hw I rfl,fun _=>?_,fun e=>absurd e I,fun e=>absurd e I⟩
   rw[y5]
   refine od _ _ _ 9 (by simp[cD,bh]) aM (by simp[h0,bh]) I ⟨⟨eF,fD⟩,⟨d_,dL⟩,?_⟩
   simp only[eH]
   exact⟨pre,post,⟨af,fh⟩,gN,⟨xH,DC,by rw[oo,hw];simp⟩,tq,by trivial⟩
 |jY=>
  simp only[eH,bh]at aB
  simp only[lY,bh]
  have cH:¬dx p z (s j):=by rw[aa];simp[dx,bh]
  obtain⟨pre,post,⟨af,fh⟩,gN,oE,tq,ak⟩:=aB
  obtain⟨c,hr,g2⟩:=h.hm.aeG
  refine⟨c,hr,?_⟩
  have y5:dZ (fy c iw 1):=by rw[xm g2 ⟨by decide,by decide⟩];exact vd _
  refine .dec cH (h.step ax (x:=.lay {u with bH:=false,aY:=.add}) (rx:=if u.fu=z.L then 6 else 8) (h.hm.Ui y5) ⟨rfl,rfl⟩ (h.aQ.same ?_) (fun _=>.inl rfl) (fun ay i2 p8 au=>⟨au,hI fun e=>?_⟩) ⟨⟨⟨eF,fD⟩,⟨d_,dL⟩,?_⟩,aM⟩ ?_ (.inl g_) (.inl ⟨rfl,by split<;>omega⟩))
  .rw[aa];simp[bU,cD,bh]
  .rw[e,h.hm.et]at au;simp at au
  .simp only[eH]
   refine⟨pre,post,⟨af,fh⟩,gN,⟨oE.1,oE.2.1,?_⟩,tq,by trivial⟩
   rw[hI (fun e=>by have:=oE.2.1;rw[e,h.hm.et]at this;simp at this)];exact oE.2.2
  .rw[aa];simp[fi,h0,bh,aE.put,ck.put,ck.tick]
 |add=>
  simp only[eH,bh]at aB
  simp only[lY,bh]
  have cH:¬dx p z (s j):=by rw[aa];simp[dx,bh]
  obtain⟨pre,post,⟨af,fh⟩,gN,oE,tq,ak⟩:=aB
  have KO:gy (z.L+4294967296*z.H) 4294967295=z.L:=by rw[I6 xB,uH]
  have aK_:=tq.1
  have aLa:=tq.2
  have ze:u.made≠p.R:=fun e=>by have:=oE.2.1;rw[e,h.hm.et]at this;simp at this
  have hV:∀(v:Int) ay i,i≠j->z.own ay= .lay i->z.own ay= .lay i/\(a.put p.R 0 v).ws ay=a.ws ay:=fun v ay i aC au=>⟨au,hI fun e=>by rw[e,h.hm.et]at au;simp at au⟩
  refine⟨⟨tq.1,I⟩,_,h.hm.HL,?_⟩
  rw[KO]
  refine⟨fun aD=>?_,fun aD=>?_⟩
  .rw[awd xB ⟨I,I⟩ (by rw[uH];omega)]
   refine .dec cH (h.step ax (x:=.lay {u with bH:=false,aY:=.space}) (rx:=7) (h.hm.Hu z.L z.H) ⟨rfl,rfl⟩ (h.aQ.same ?_) (fun _=>.inl rfl) (hV _) ⟨⟨⟨eF,fD⟩,⟨d_,dL⟩,?_⟩,aM⟩ ?_ (.inl g_) (.inl ⟨rfl,by rw[ak,if_neg I];omega⟩))
   .rw[aa];simp[bU,cD,bh]
   .simp only[eH]
    exact⟨pre,post,⟨af,fh⟩,gN,.inr ⟨⟨oE.1,oE.2.1,by rw[hI ze];exact oE.2.2⟩,by trivial⟩⟩
   .have:=oE.1
    rw[aa];simp[fi,h0,bh,aE.put,ck.put,ck.tick];omega
  .have aw':o1 (z.L+4294967296*z.H) 4294967295 u.fu (u.fu+1)=(z.L+1)+4294967296*z.H:=by
    rw[awc xB ⟨I,I⟩ ⟨I,I⟩ (by rw[uH];omega),uH];omega
   rw[aw']
   refine h.z9 ax g_ aa (k:=u.room) (l':=z.a_ u.room) (by simp[cD,bh]) cH (rx:=3) (h.hm.Hu (z.L+1) z.H) ⟨rfl,rfl⟩ (by simp[cD]) (by rw[wi]) rfl rfl ?_ ?_ ?_ rfl ?_ ?_ (hV _) ⟨⟨eF,fD⟩,⟨d_,dL⟩,?_⟩ aM ?_ (.inr (by rw[ak,if_pos aD.symm];omega))
   .simp only[cD,bh];omega
   .simp only[cD];omega
   .show z.L+1<=p.E;omega
   .simp[cD,bh]
   .intro v
    simp[cD,bh]
   .simp only[eH]
    exact⟨pre,post,⟨af,fh⟩,gN,⟨oE.1,oE.2.1,by rw[hI ze];exact oE.2.2⟩,by trivial⟩
   .simp[h0,bh,aE.put,ck.put,ck.tick]
 |link=>
  simp only[eH,bh]at aB
  simp only[lY,bh]
  have cH:¬dx p z (s j):=by rw[aa];simp[dx,bh]
  obtain⟨pre,post,⟨af,fh⟩,gN,oE,ak⟩:=aB
  have hB:=h.hm.u6 d_ dL af
  rw[<-fh]at hB
  refine⟨_,hB,?_⟩
  have Gv:IntKind.wrap .u64 u.made=u.made:=by
   have:=h.hm.of u.made (by rw[oE.2.1];simp)
   exact wrap_u64 I I
  rw[Gv]
  obtain⟨Ey,dK,dR⟩:=h.hm.link d_ dL af oE.2.1 (by rw[<-gN];exact oE.2.2)
  rw[<-fh]at dK dR
  refine h.z9 ax g_ aa (k:=u.room) (by simp[cD,bh]) cH (rx:=2) dK ⟨rfl,rfl⟩ (by simp[cD]) rfl rfl rfl ?_ ?_ ih rfl ?_ ?_ (fun ay i aC au=>?_) ⟨⟨eF,fD⟩,⟨d_,dL⟩,?_⟩ aM ?_ (.inl ⟨rfl,I⟩)
  .simp only[cD,bh,af];simp;omega
  .simp only[cD];omega
  .simp[cD,bh]
  .intro v
   simp only[cD,bh,k9,af,Bool.false_eq_true,if_false,AG,vu]
   rw[List.map_append,rA];omega
  .have bp:ay≠u.made:=fun e=>by rw[e,oE.2.1]at au;simp at au;exact aC au.symm
   exact⟨by simp only[dT _ _ bp];exact au,dR ay (by rw[au];simp) (fun e=>by rw[e,h.hm.et]at au;simp at au)⟩
  .simp only[eH]
  .simp[h0,bh,aE.put,ck.put,ck.tick]
end
