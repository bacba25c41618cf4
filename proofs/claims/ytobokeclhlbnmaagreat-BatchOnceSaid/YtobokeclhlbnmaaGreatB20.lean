/- Part of the proof of BatchOnce, for every input. -/
import Derived.Test.YtobokeclhlbnmaaGreatB19
set_option linter.all false
namespace Go.Proofs.Run
open Go Go.Abs
section
variable{p:ew}{an ar:Nat}{a8:List Int}{a:aE}{z:kA}{s:Nat->jU}{vs:Nat->List Int}{aX:List Int}{aS N:Int}{r:Nat->Nat}{j:Nat}{k:Int}
abbrev w2(p:ew)(an ar:Nat)(a8:List Int)(s:Nat->jU)(vs:Nat->List Int)(aX:List Int)(aS N:Int)(r:Nat->Nat)(j:Nat)(a':aE)(x:jU)(vx:List Int):Prop:=∃z' r',ev p an ar a8 a' z' (bT s j x) (bT vs j vx) aX aS (N+1) r'/\e2 r'<e2 r
theorem ev.B1(h:ev p an ar a8 a z s vs aX aS N r)(ax:j<5){x:jU}{rx:Nat}(hv:bU x (vs j)=bU (s j) (vs j))(aj:∀l,x≠ .lay l)(aA:pi p a z j x rx)(ak:rx<r j):w2 p an ar a8 s vs aX aS N r j a.tick x (vs j):=by
 refine h.step ax h.hm.tick ⟨rfl,rfl⟩ (h.aQ.same hv) (fun _=>.inl rfl) (fun _ _ _ h=>⟨h,rfl⟩) (rx:=rx) ?_ ?_ (.inr aj) (.inl ⟨rfl,ak⟩)
 .obtain⟨r',J,_,aq⟩:=aA.frame (a':=a.tick) (z':=z) (vs:=vs j) (fun _ _=>rfl) (fun ay au=>⟨au,rfl⟩)
  rw[aq (.inl rfl)]at J;exact J
 .have e:fi x=0:=by cases x<;>first|rfl|exact absurd rfl (aj _)
  have:=(DH (s j)).1
  rw[e];show a.m.made+0<=_;omega
theorem ev.E3(h:ev p an ar a8 a z s vs aX aS N r)(ax:j<5){k:Int}(eU:(bU (s j) (vs j)).cd= .hold k){x:jU}{vx:List Int}{a':aE}{z':kA}{rx:Nat}{l':List dP}(aj:∀l,x≠ .lay l)
 (dK:ei p a' z') (ob:Kept a' a) (e6:a'.m.made=a.m.made) (Dy:(bU x vx).cd= .hold k) (gf:z'.a_=ez z.a_ k l') (zn:z'.cY=z.cY) (fU:z'.bM=z.bM)
 (af:(l'.length:Int)+(bU x vx).cS- ((z.a_ k).length+(bU (s j) (vs j)).cS)=z'.L-z.L) (nc:0<=(l'.length:Int)+(bU x vx).cS) (ih:z'.L<=p.E) (te:z'.H=z.H+((bU x vx).aC- (bU (s j) (vs j)).aC)) (y8:0<=(bU x vx).aC/\(bU x vx).aC<=1)
 (hv:∀v,bZ v (k9 (bU x vx).hZ l')+bZ v (bU x vx).vs<=bZ v (k9 (bU (s j) (vs j)).hZ (z.a_ k))+bZ v (bU (s j) (vs j)).vs)
 (hV:∀ay i,z.own ay= .lay i->z'.own ay= .lay i/\a'.ws ay=a.ws ay) (aA:pi p a' z' j x rx) (ak:(z'.L=z.L/\rx<r j)\/rx+4<r j):
 w2 p an ar a8 s vs aX aS N r j a' x vx:=by
 refine h.step ax dK ob ?_ (fun a9=>?_) (fun ay i _ au=>hV ay i au) aA ?_ (.inr aj) (ak.imp id .inl)
 .rw[gf,zn,fU]
  exact h.aQ.inner ax (k:=k) eU Dy af nc ih te y8 hv
 .by_cases e:a9=k
  .right;rw[e];exact eU
  .left;rw[gf,dT _ _ e]
 .have e:fi x=0:=by cases x<;>first|rfl|exact absurd rfl (aj _)
  have:=(DH (s j)).1
  rw[e,e6];omega
theorem aFX{i:Nat}{x:Int}{l:List Int}:(List.replicate i 0++x::l).set i 0=List.replicate (i+1) 0++l:=by
 induction i with
 |zero=>rfl
 |succ i c0=>rw[List.replicate_succ,List.cons_append,List.set_cons_succ,c0];rfl
theorem aBk(h:ev p an ar a8 a z s vs aX aS N r)(ax:j<5)(aF:N<1000000000){v:jd}(aa:s j= .b_ k v):qY p a {v with bH:=false} (fun a' v'=>
 (v'.bH=false/\v'.aY≠ .done/\sb p an ar a8 z s vs aX aS N r j a' (.b_ k v') (vs j))\/
 (v'.bH=true/\v'.aY= .done/\v'.keys.length<=64/\¬dx p z (s j)/\w2 p an ar a8 s vs aX aS N r j a' (.stay k v' 0 v'.keys.length) (vs j))):=by
 have lE:=h.loc j ax
 rw[aa]at lE
 obtain⟨⟨d_,dL⟩,j2,aB⟩:=lE
 subst j2
 have cy:=h.hm.cy
 have mJ:=h.pc
 have fQ:0<=v.room/\v.room<1000:=⟨d_,I⟩
 obtain⟨⟨uy,ih⟩,⟨Q8,Q9⟩,xB,uH,hdiv⟩:=h.x2 aF
 obtain⟨⟨Bf,rN,j3⟩,cL,h8⟩:=h.Nz aF ⟨d_,dL⟩
 have st:=(DH (s j)).1
 cases bh:v.aY with
 |done=>simp only[bh]at aB
 |draw=>
  simp only[bh]at aB
  simp only[qY,bh]
  have cH:¬dx p z (s j):=by rw[aa];simp[dx,bh]
  refine⟨_,h.hm.aeI d_ dL,.inl ⟨by trivial,aM,?_⟩⟩
  rw[cL]
  refine .dec cH (h.step ax (h.hm.Uj d_ dL _) ⟨rfl,rfl⟩ ?_ (fun _=>.inl rfl) (fun ay i aC au=>⟨au,hI fun e=>?_⟩) (rx:=14*p.E.toNat+7) ⟨⟨d_,dL⟩,rfl,?_⟩ ?_ (.inr fun _=>aM) (.inl ⟨rfl,I⟩))
  .refine h.aQ.draw ax ⟨d_,I⟩ ?_ ?_ h.iZ.1 ?_ ?_ ?_
   .rw[aa];simp[bU,bh]
   .rw[aa];simp[bU,bh]
   .simp[bU]
   .simp[bU]
   .intro v;rw[aa];simp[bU,bh]
  .rw[e,h.hm.et]at au;simp at au
  .exact⟨aB.1,aB.2.1,rfl⟩
  .show a.m.made+0<=_;omega
 |wait bK=>
  simp only[bh]at aB
  simp only[qY,bh]
  refine⟨fQ,_,h.hm.HN d_ dL,fun e=>?_,fun e=>?_⟩
  .have hw:dx p z (s j):=by rw[aa];simp only[dx,bh];exact e
   refine .inl ⟨by trivial,aM,sb.wait (x:=.b_ v.room {v with bH:=false,aY:=.wait bK}) hw (h.wait ax ?_ ⟨⟨d_,dL⟩,rfl,?_⟩ ?_ (.inr fun _=>aM)) ?_⟩
   .rw[aa];simp[bU,bh]
   .exact aB
   .exact st
   .simp only[dx];exact e
  .have cH:¬dx p z (s j):=by rw[aa];simp only[dx,bh];exact fun h=>h e
   refine .inl ⟨by trivial,aM,.dec cH (h.step ax h.hm.tick ⟨rfl,rfl⟩ ?_ (fun _=>.inl rfl) (fun ay i aC au=>⟨au,rfl⟩) (rx:=14*p.E.toNat+6) ⟨⟨d_,dL⟩,rfl,?_⟩ ?_ (.inr fun _=>aM) (.inl ⟨rfl,I⟩))⟩
   .refine h.aQ.go (k:=v.room) ax ?_ ?_ ?_ ?_ ?_ ?_ ?_
    .rw[aa];simp[bU,bh,e]
    .rw[aa];simp[bU,bh]
    .simp[bU]
    .simp[bU]
    .simp[bU]
    .simp[bU]
    .intro v;rw[aa];simp[bU,bh]
   .exact⟨aB.1,aB.2.1,rfl⟩
   .show a.m.made+0<=_;omega
 |go=>
  simp only[bh]at aB
  simp only[qY,bh]
  have cH:¬dx p z (s j):=by rw[aa];simp[dx,bh]
  have eU:(bU (s j) (vs j))=⟨.hold v.room,0,0,vs j,false⟩:=by rw[aa];simp only[bU,bh]
  have hlen:=h.len (k:=v.room) ax (by rw[eU]) (by rw[eU])
  refine⟨fQ,_,h.hm.HM d_ dL,fun e=>?_,fun e=>?_⟩
  .have xJ:z.a_ v.room=[]:=by
    cases af:z.a_ v.room with
    |nil=>rfl
    |cons ee l=>
     rw[af]at e
     exact absurd e (h.hm.uN (k:=v.room) (e:=ee) (by rw[af];simp)).2.1
   refine .inr ⟨by trivial,by trivial,?_,cH,?_⟩
   .show v.keys.length<=64;rw[aB.1];simp
   refine h.B1 ax (rx:=3) ?_ aM ⟨⟨d_,dL⟩,rfl,rfl,?_,?_,?_,?_⟩ I
   .rw[eU];rfl
   .rw[xJ];show 0=v.keys.length;rw[aB.1];rfl
   .rw[xJ];exact aB.2.1
   .exact⟨by show v.keys.length=0+v.keys.length;omega,by show 0+v.keys.length<=64;rw[aB.1];simp⟩
   .show 3=12*v.keys.length+3;rw[aB.1];rfl
  .cases af:z.a_ v.room with
   |nil=>rw[af]at e;exact absurd rfl e
   |cons ee l=>
    have xF:=hlen
    rw[af,List.length_cons]at xF
    refine .inl ⟨by trivial,aM,.dec cH (h.B1 ax (rx:=12*(z.a_ v.room).length+2*l.length+5) ?_ aM ⟨⟨d_,dL⟩,rfl,?_⟩ I)⟩
    .rw[eU];rfl
    .exact⟨[],ee,l,af,rfl,aB.2.1,by show v.keys.length=0;rw[aB.1];rfl,rfl⟩
 |load=>
  simp only[bh]at aB
  simp only[qY,bh]
  have cH:¬dx p z (s j):=by rw[aa];simp[dx,bh]
  have eU:(bU (s j) (vs j))=⟨.hold v.room,0,0,vs j,false⟩:=by rw[aa];simp only[bU,bh]
  have hlen:=h.len (k:=v.room) ax (by rw[eU]) (by rw[eU])
  obtain⟨pre,post,af,fh,g8,e0,ak⟩:=aB
  have hB:=h.hm.u6 d_ dL af
  rw[<-fh]at hB
  refine⟨_,hB,fun e=>?_,fun e=>?_⟩
  .have xJ:post=[]:=by
    cases post with
    |nil=>rfl
    |cons ee l=>exact absurd e (h.hm.uN (k:=v.room) (e:=ee) (by rw[af];simp)).2.1
   subst xJ
   rw[List.append_nil]at af
   have az7:v.keys.length=(z.a_ v.room).length:=by rw[af];exact e0
   refine .inr ⟨by trivial,by trivial,?_,cH,?_⟩
   .show v.keys.length<=64;omega
   refine h.B1 ax (rx:=12*v.keys.length+3) ?_ aM ⟨⟨d_,dL⟩,rfl,rfl,?_,?_,?_,?_⟩ I
   .rw[eU];rfl
   .exact az7.symm
   .rw[af];exact g8
   .exact⟨by show v.keys.length=0+v.keys.length;omega,by show 0+v.keys.length<=64;omega⟩
   .rfl
  .cases post with
   |nil=>exact absurd rfl e
   |cons ee l=>
    simp only[List.length_cons]at ak
    refine .inl ⟨by trivial,aM,.dec cH (h.B1 ax (rx:=12*(z.a_ v.room).length+2*l.length+5) ?_ aM ⟨⟨d_,dL⟩,rfl,?_⟩ I)⟩
    .rw[eU];rfl
    .exact⟨pre,ee,l,af,rfl,g8,e0,rfl⟩
 |ask=>
  simp only[bh]at aB
  simp only[qY,bh]
  have cH:¬dx p z (s j):=by rw[aa];simp[dx,bh]
  have eU:(bU (s j) (vs j))=⟨.hold v.room,0,0,vs j,false⟩:=by rw[aa];simp only[bU,bh]
  have hlen:=h.len (k:=v.room) ax (by rw[eU]) (by rw[eU])
  obtain⟨pre,e,post,af,gN,g8,e0,ak⟩:=aB
  have hJ:e∈z.a_ v.room:=by rw[af];simp
  rw[gN,(h.hm.uN hJ).1]
  have xF:pre.length+(post.length+1)<=p.E.toNat:=by
   rw[af,List.length_append,List.length_cons]at hlen;exact hlen
  refine⟨by show v.keys.length<100000;omega,_,h.hm.rd_key hJ,.inl ⟨by trivial,aM,.dec cH (h.B1 ax (rx:=12*(z.a_ v.room).length+2*post.length+4) ?_ aM ⟨⟨d_,dL⟩,rfl,?_⟩ I)⟩⟩
  .rw[eU];rfl
  .exact⟨pre++[e],post,by rw[af];simp,by rw[Pj],by simp[g8],by simp[e0],rfl⟩
theorem aA6(h:ev p an ar a8 a z s vs aX aS N r)(ax:j<5)(aF:N<1000000000){u:lj}{i c:Nat}(aa:s j= .take k (.take u) i c):px p a {u with bH:=false} (fun a' bj=>
 (bj.bH=true->bj.aY≠ .done)/\
 ((bj.aY≠ .done/\w2 p an ar a8 s vs aX aS N r j a' (.take k (.take bj) i c) (if bj.bH then vs j++[bj.val]else vs j))\/
 (bj.aY= .done/\0<c/\w2 p an ar a8 s vs aX aS N r j a' (.stay k bj.b_ (i+1) (c-1)) (vs j)))):=by
 have lE:=h.loc j ax
 rw[aa]at lE
 obtain⟨⟨d_,dL⟩,⟨j2,xQ⟩,e,post,af,vM,gN,⟨AS,AT⟩,⟨e0,xD⟩,aB⟩:=lE
 have cy:=h.hm.cy
 have mJ:=h.pc
 obtain⟨⟨uy,ih⟩,⟨Q8,Q9⟩,xB,uH,hdiv⟩:=h.x2 aF
 have hJ:e∈z.a_ k:=by rw[af];simp
 have aKI:((z.a_ k).length:Int)=post.length+1:=by rw[af];simp
 have KW:∀(oG v:Int) ay i2,z.own ay= .lay i2->z.own ay= .lay i2/\(a.put p.R oG v).ws ay=a.ws ay:=fun oG v ay i2 au=>⟨au,hI fun e=>by rw[e,h.hm.et]at au;simp at au⟩
 cases bh:u.aY with
 |done=>simp only[bh]at aB
 |start oG=>
  simp only[bh]at aB
  obtain⟨rfl,g8,ak⟩:=aB
  simp only[px,bh]
  have eU:(bU (s j) (vs j))=⟨.hold k,0,0,vs j,false⟩:=by rw[aa];simp only[bU,bh]
  have hlen:=h.len (k:=k) ax (by rw[eU]) (by rw[eU])
  have aKM:=congrArg List.length g8
  have Kx:fy (z.L+4294967296*z.H) iw 4294967296=z.L+4294967296*(z.H+1):=by
   rw[xm xB ⟨by decide,by decide⟩,sU ⟨I,I⟩];omega
  refine⟨by show oG<u.b_.keys.length;omega,?_,_,h.hm.HL,aM,.inl ⟨aM,?_⟩⟩
  .show u.b_.keys.length<100000
   omega
  .rw[Kx]
   refine h.E3 ax (k:=k) (by rw[eU]) (l':=z.a_ k) (rx:=12*post.length+14) aM (h.hm.Hu z.L (z.H+1)) ⟨rfl,rfl⟩ rfl rfl (by rw[wi]) rfl rfl ?_ ?_ ih ?_ ?_ ?_ (KW _ _) ⟨⟨d_,dL⟩,⟨j2,xQ⟩,e,post,af,vM,gN,⟨AS,AT⟩,⟨e0,xD⟩,?_⟩ (.inl ⟨rfl,I⟩)
   .rw[eU];simp only[bU];omega
   .simp only[bU];omega
   .rw[eU];simp only[bU];omega
   .simp only[bU];omega
   .intro v;rw[eU];simp[bU,k9]
   .refine⟨?_,rfl⟩
    show u.b_.gH.set oG 0=_
    rw[g8,List.map_cons,aFX]
 |jY=>
  simp only[bh]at aB
  obtain⟨g8,ak⟩:=aB
  simp only[px,bh]
  have eU:(bU (s j) (vs j))=⟨.hold k,1,0,vs j,false⟩:=by rw[aa];simp only[bU,bh]
  obtain⟨w,uK,sA⟩:=h.hm.aeG
  have y5:dZ (fy w iw 1):=by rw[xm sA ⟨by decide,by decide⟩];exact vd _
  refine⟨w,uK,aM,.inl ⟨aM,?_⟩⟩
  refine h.E3 ax (k:=k) (by rw[eU]) (l':=z.a_ k) (rx:=12*post.length+13) aM (h.hm.Ui y5) ⟨rfl,rfl⟩ rfl rfl (by rw[wi]) rfl rfl ?_ ?_ ih ?_ ?_ ?_ (KW _ _) ⟨⟨d_,dL⟩,⟨j2,xQ⟩,e,post,af,vM,gN,⟨AS,AT⟩,⟨e0,xD⟩,?_⟩ (.inl ⟨rfl,I⟩)
  .rw[eU];simp only[bU];omega
  .simp only[bU];omega
  .rw[eU];simp only[bU];omega
  .simp only[bU];omega
  .intro v;rw[eU];simp[bU,k9]
  .exact⟨g8,rfl⟩
 |val=>
  simp only[bh]at aB
  obtain⟨g8,ak⟩:=aB
  simp only[px,bh]
  have eU:(bU (s j) (vs j))=⟨.hold k,1,0,vs j,false⟩:=by rw[aa];simp only[bU,bh]
  rw[gN]
  refine⟨_,h.hm.rd_val hJ,aM,.inl ⟨aM,?_⟩⟩
  refine h.E3 ax (k:=k) (by rw[eU]) (l':=z.a_ k) (rx:=12*post.length+12) aM h.hm.tick ⟨rfl,rfl⟩ rfl rfl (by rw[wi]) rfl rfl ?_ ?_ ih ?_ ?_ ?_ (fun _ _ au=>⟨au,rfl⟩) ⟨⟨d_,dL⟩,⟨j2,xQ⟩,e,post,af,vM,rfl,⟨AS,AT⟩,⟨e0,xD⟩,?_⟩ (.inl ⟨rfl,I⟩)
  .rw[eU];simp only[bU];omega
  .simp only[bU];omega
  .rw[eU];simp only[bU];omega
  .simp only[bU];omega
  .intro v
   rw[eU]
   simp only[bU,k9,af,if_true,Bool.false_eq_true,if_false,List.tail_cons,List.map_cons,rA]
   have:=rB v e.val (post.map (·.val))
   omega
  .exact⟨g8,rfl⟩
 |dec=>
  simp only[bh]at aB
  obtain⟨g8,ak⟩:=aB
  simp only[px,bh]
  have eU:(bU (s j) (vs j))=⟨.hold k,1,0,vs j,true⟩:=by rw[aa];simp only[bU,bh]
  have dC:=h.aQ.len (k:=k) ax (by show(bU (s j) (vs j)).cd=_;rw[eU]) (by show(bU (s j) (vs j)).cS=_;rw[eU])
  have aKx:1<=z.H:=by
   have J:=h.aQ.H
   have U:=(E1 (w:=fun i=>(bU (s i) (vs i)).aC) ax fun i aC=>(h.aQ.aC i aC).1).1
   simp only[eU]at U
   omega
  have Kx:fy (z.L+4294967296*z.H) iw 18446744069414584319=(z.L-1)+4294967296*(z.H-1):=by
   rw[xm xB ⟨by decide,by decide⟩,show z.L+4294967296*z.H+18446744069414584319=((z.L-1)+4294967296*(z.H-1))+18446744073709551616 by omega,asS I I]
  refine⟨_,h.hm.HL,aM,.inl ⟨aM,?_⟩⟩
  rw[Kx]
  refine h.E3 ax (k:=k) (by rw[eU]) (l':=z.a_ k) (rx:=12*post.length+7) aM (h.hm.Hu (z.L-1) (z.H-1)) ⟨rfl,rfl⟩ rfl rfl (by rw[wi]) rfl rfl ?_ ?_ ?_ ?_ ?_ ?_ (KW _ _) ⟨⟨d_,dL⟩,⟨j2,xQ⟩,e,post,af,vM,gN,⟨AS,AT⟩,⟨e0,xD⟩,?_⟩ (.inr I)
  .rw[eU];simp only[bU];omega
  .simp only[bU];omega
  .show z.L-1<=p.E;omega
  .rw[eU];simp only[bU];omega
  .simp only[bU];omega
  .intro v;rw[eU];simp[bU,k9]
  .exact⟨g8,rfl⟩
 |jo=>
  simp only[bh]at aB
  obtain⟨g8,ak⟩:=aB
  simp only[px,bh]
  have eU:(bU (s j) (vs j))=⟨.hold k,0, -1,vs j,true⟩:=by rw[aa];simp only[bU,bh]
  have Be:=h.hm.jF k
  rw[af]at Be
  rw[gN]
  refine⟨di post 0,lO Be.1 I rfl,aM,.inl ⟨aM,?_⟩⟩
  refine h.B1 ax (rx:=12*post.length+6) ?_ aM ⟨⟨d_,dL⟩,⟨j2,xQ⟩,e,post,af,vM,rfl,⟨AS,AT⟩,⟨e0,xD⟩,?_⟩ I
  .rw[eU];rfl
  .exact⟨rfl,g8,rfl⟩
 |j9 w=>
  simp only[bh]at aB
  obtain⟨rfl,g8,ak⟩:=aB
  simp only[px,bh]
  have eU:(bU (s j) (vs j))=⟨.hold k,0, -1,vs j,true⟩:=by rw[aa];simp only[bU,bh]
  obtain⟨⟨zp,aBb⟩,aBc⟩:=h.hm.unlink af
  have e6:=h.made
  rw[gN,AS,AT]
  refine⟨?_,⟨_,h.hm.HM d_ dL⟩,zp,aBb,h.hm.oj I,fun b bC fl c_=>⟨aM,.inr ⟨by trivial,I,?_⟩⟩⟩
  .cases post with
   |nil=>exact⟨by decide,by decide⟩
   |cons aJ l=>
    have:=h.hm.n3 (k:=k) (e:=aJ) (by rw[af];simp)
    exact⟨by show 0<=aJ.h;omega,by show aJ.h<_;omega⟩
  .obtain⟨Ey,dK,dR⟩:=aBc b bC fl c_
   refine h.E3 ax (k:=k) (by rw[eU]) (l':=post) (rx:=12*post.length+3) aM dK ⟨rfl,rfl⟩ ?_ rfl rfl rfl rfl ?_ ?_ ih ?_ ?_ ?_ (fun ay i2 au=>?_) ⟨⟨d_,dL⟩,j2,xQ,?_,?_,?_,?_⟩ (.inl ⟨rfl,I⟩)
   .exact(tz _ _).2.1
   .rw[eU];simp only[bU];omega
   .simp only[bU];omega
   .rw[eU];simp only[bU];omega
   .simp only[bU];omega
   .intro v
    rw[eU]
    simp[bU,k9,af]
   .have bp:ay≠e.h:=fun aD=>by have:=h.hm.e7 k e hJ;rw[<-aD,au]at this;simp at this
    exact⟨by simp only[dT _ _ bp];exact au,dR ay (by rw[au];simp) (by rw[au];simp) (fun e=>by rw[e,h.hm.et]at au;simp at au)⟩
   .simp only[h'];omega
   .simp only[h'];exact g8
   .exact⟨by show u.b_.keys.length=_;omega,I⟩
   .omega
theorem aAr(h:ev p an ar a8 a z s vs aX aS N r)(ax:j<5)(aF:N<1000000000){R:ot}(aa:s j= .leave k R):we p a R (fun a' gT=>gT.cJ=true/\w2 p an ar a8 s vs aX aS N r j a' .none (vs j)):=by
 have lE:=h.loc j ax
 rw[aa]at lE
 cases R with
 |take u=>exact lE.elim
 |leave room e d=>
  obtain⟨⟨d_,dL⟩,rfl,rfl,ak⟩:=lE
  have cy:=h.hm.cy
  obtain⟨⟨Bf,rN,j3⟩,cL,h8⟩:=h.Nz aF ⟨d_,dL⟩
  have eU:(bU (s j) (vs j))=⟨.hold room,0,0,vs j,false⟩:=by rw[aa];rfl
  refine⟨⟨d_,I⟩,_,h.hm.HN d_ dL,rfl,?_⟩
  rw[h8]
  refine h.step ax (x:=.none) (h.hm.Uk d_ dL _) ⟨rfl,rfl⟩ ?_ (fun _=>.inl rfl) (fun ay i aC au=>⟨au,hI fun e=>?_⟩) (rx:=0) rfl ?_ (.inr fun _=>aM) (.inl ⟨rfl,I⟩)
  .refine h.aQ.leave (k:=room) ax ?_ ?_ ?_ ?_ ?_ ?_ ?_
   .rw[eU]
   .rw[eU]
   .rw[eU]
   .rw[eU]
   .rfl
   .rfl
   .intro v;rw[eU];simp[bU]
  .rw[e,h.hm.et]at au;simp at au
  .have:=(DH (s j)).1
   show a.m.made+0<=_;omega
end
section
variable{p:ew}{an ar:Nat}{a8:List Int}{a:aE}{z:kA}{s:Nat->jU}{vs:Nat->List Int}{aX:List Int}{aS N:Int}{r:Nat->Nat}{j:Nat}{k:Int}
theorem hS.qi{B:Nat}{E:Int}{a_:Int->List dP}{cY bM:Int->Int}{L H:Int}{cN:Nat->jb}(h:hS B E a_ cY bM L H cN aX aS N)(ax:j<5)(aA:(cN j).cd= .hold k):((a_ k).length:Int)+(cN j).cS<=E:=by
 have ah:=h.mW j ax
 rw[aA]at ah
 obtain⟨c,cF,U,aq,aK,bx⟩:=h.ex
 obtain⟨gJ,fV,fW⟩:=aq k ah.1 ah.2
 have:=(fW j ax aA).1
 have:=Nt (c:=c) (n:=B) ah.1 ah.2 fun a9 cp fI=>(aq a9 cp fI).dF
 have:=h.LE
 omega
theorem ev.ix(h:ev p an ar a8 a z s vs aX aS N r)(ax:j<5):r j<=14*p.E.toNat+20:=by
 have aA:=h.loc j ax
 have mJ:=h.pc
 have aw:=fun k ah=>h.aQ.qi (k:=k) ax ah
 cases aa:s j with
 |none=>rw[aa]at aA;simp only[pi]at aA;omega
 |lay u=>
  rw[aa]at aA
  obtain⟨⟨_,_,aB⟩,_⟩:=aA
  simp only[aa]at aw
  cases bh:u.aY<;>simp only[eH,bh]at aB
  case draw=>omega
  case wait t=>omega
  case go=>omega
  case load=>
   obtain⟨_,pre,post,⟨af,_⟩,ak⟩:=aB
   have:=aw u.room (by simp[bU,cD,bh])
   simp only[bU,cD,bh,af,List.length_append]at this
   omega
  case ask=>
   obtain⟨_,pre,e,post,⟨af,_⟩,_,ak⟩:=aB
   have:=aw u.room (by simp[bU,cD,bh])
   simp only[bU,cD,bh,af,List.length_append,List.length_cons]at this
   omega
  case set=>obtain⟨_,_,_,_,_,ak⟩:=aB;omega
  case leave=>omega
  case space=>obtain⟨_,_,_,_,ak⟩:=aB;omega
  case make=>obtain⟨_,_,_,_,_,_,ak⟩:=aB;omega
  case fill i=>obtain⟨_,_,_,_,_,_,aC,ak⟩:=aB;omega
  case jY=>obtain⟨_,_,_,_,_,_,ak⟩:=aB;omega
  case add=>obtain⟨_,_,_,_,_,_,ak⟩:=aB;split at ak<;>omega
  case link=>obtain⟨_,_,_,_,_,ak⟩:=aB;omega
  case done=>omega
 |b_ k v=>
  rw[aa]at aA
  obtain⟨_,_,aB⟩:=aA
  simp only[aa]at aw
  cases bh:v.aY<;>simp only[bh]at aB
  case draw=>omega
  case wait t=>omega
  case go=>omega
  case load=>
   obtain⟨pre,post,af,_,_,_,ak⟩:=aB
   have:=aw k (by simp[bU,bh])
   simp only[bU,bh,af,List.length_append]at this
   simp only[af,List.length_append]at ak
   omega
  case ask=>
   obtain⟨pre,e,post,af,_,_,_,ak⟩:=aB
   have:=aw k (by simp[bU,bh])
   simp only[bU,bh,af,List.length_append,List.length_cons]at this
   simp only[af,List.length_append,List.length_cons]at ak
   omega
 |stay k v i c=>
  rw[aa]at aA
  simp only[aa]at aw
  obtain⟨_,_,_,af,_,_,ak⟩:=aA
  have:=aw k rfl
  simp only[bU,af]at this
  omega
 |take k R i c=>
  rw[aa]at aA
  simp only[aa]at aw
  cases R with
  |leave room e d=>exact aA.elim
  |take u=>
   obtain⟨_,_,e,post,af,vM,_,_,_,aB⟩:=aA
   have J:=aw k (by simp only[bU];split<;>rfl)
   simp only[af,List.length_cons]at J
   cases bh:u.aY<;>simp only[bh]at aB<;>simp only[bU,bh]at J<;>omega
 |leave k R=>
  rw[aa]at aA
  cases R with
  |take u=>exact aA.elim
  |leave room e d=>have:=aA.2.2.2;omega
theorem ev.some(h:ev p an ar a8 a z s vs aX aS N r)(hw:∃j,j<5/\dx p z (s j)):∃j,j<5/\s j≠ .none/\¬dx p z (s j):=by
 have te:z.H≠0->∃j,j<5/\s j≠ .none/\¬dx p z (s j):=fun a5=>by
  have e:=h.aQ.H
  have J:∃j,j<5/\(bU (s j) (vs j)).aC≠0:=by
   refine Classical.byContradiction fun az=>a5 ?_
   have bB:∀j,j<5->(bU (s j) (vs j)).aC=0:=fun j ax=>Classical.byContradiction fun U=>az ⟨j,ax,U⟩
   rw[e]
   simp only[jR]
   have FF:=bB 0 I
   have cR:=bB 1 I
   have b7:=bB 2 I
   have fF:=bB 3 I
   have gx:=bB 4 I
   omega
  obtain⟨j,ax,J⟩:=J
  refine⟨j,ax,?_⟩
  cases aa:s j with
  |none=>rw[aa]at J;exact absurd rfl J
  |lay u=>rw[aa]at J;simp only[bU,cD]at J;split at J<;>exact absurd rfl J
  |b_ k v=>rw[aa]at J;simp only[bU]at J;split at J<;>exact absurd rfl J
  |stay k v i c=>rw[aa]at J;exact absurd rfl J
  |take k R i c=>exact⟨aM,by simp[dx]⟩
  |leave k R=>rw[aa]at J;exact absurd rfl J
 have azW:∀j,j<5->∀k,(bU (s j) (vs j)).cd= .hold k->∃j,j<5/\s j≠ .none/\¬dx p z (s j):=fun j ax k ah=>by
  by_cases U:dx p z (s j)
  .cases aa:s j with
   |lay u=>
    rw[aa]at U ah
    simp only[dx]at U
    split at U
    .next bh=>simp[bU,cD,bh]at ah
    .exact te U.2
    .exact U.elim
   |b_ k v=>
    rw[aa]at U ah
    simp only[dx]at U
    split at U
    .next bh=>simp[bU,bh]at ah
    .exact U.elim
   |none=>rw[aa]at U;exact U.elim
   |stay k v i c=>rw[aa]at U;exact U.elim
   |take k R i c=>rw[aa]at U;exact U.elim
   |leave k R=>rw[aa]at U;exact U.elim
  .exact⟨j,ax,fun e=>by rw[e]at ah;simp[bU]at ah,U⟩
 have aBo:∀j,j<5->∀k,(bU (s j) (vs j)).cd= .wait k (z.bM k)->∃j,j<5/\s j≠ .none/\¬dx p z (s j):=fun j ax k ah=>by
  refine⟨j,ax,fun e=>by rw[e]at ah;simp[bU]at ah,fun U=>?_⟩
  cases aa:s j with
  |lay u=>
   rw[aa]at U ah
   simp only[dx]at U
   split at U
   .next t bh=>
    simp only[bU,cD,bh,gk.wait.injEq]at ah
    exact U (by rw[ah.1,ah.2])
   .next bh=>simp[bU,cD,bh]at ah
   .exact U.elim
  |b_ k v=>
   rw[aa]at U ah
   simp only[dx]at U
   split at U
   .next t bh=>
    simp only[bU,bh,gk.wait.injEq]at ah
    exact U (by rw[ah.1,ah.2])
   .exact U.elim
  |none=>rw[aa]at U;exact U.elim
  |stay k v i c=>rw[aa]at U;exact U.elim
  |take k R i c=>rw[aa]at U;exact U.elim
  |leave k R=>rw[aa]at U;exact U.elim
 have RS:∀j,j<5->∀k t,(bU (s j) (vs j)).cd= .wait k t->∃j,j<5/\s j≠ .none/\¬dx p z (s j):=fun j ax k t ah=>by
  have j2:=h.aQ.mW j ax
  simp only[ah]at j2
  obtain⟨i,aC,aq⟩:=(h.aQ.cd k j2.1 j2.2).1.first ax ah
  exact aq.elim (aBo i aC k) (azW i aC k)
 obtain⟨j,ax,hw⟩:=hw
 cases aa:s j with
 |lay u=>
  rw[aa]at hw
  simp only[dx]at hw
  split at hw
  .next t bh=>exact RS j ax u.room t (by rw[aa];simp[bU,cD,bh])
  .exact te hw.2
  .exact hw.elim
 |b_ k v=>
  rw[aa]at hw
  simp only[dx]at hw
  split at hw
  .next t bh=>exact RS j ax k t (by rw[aa];simp[bU,bh])
  .exact hw.elim
 |none=>rw[aa]at hw;exact hw.elim
 |stay k v i c=>rw[aa]at hw;exact hw.elim
 |take k R i c=>rw[aa]at hw;exact hw.elim
 |leave k R=>rw[aa]at hw;exact hw.elim
theorem SS{l:List Int}{n:Int}(J:∀v,bZ v l<=1)(U:∀v,v∈l->1<=v/\v<=n):l.Nodup/\l.length<=n.toNat:=by
 have az:l.Nodup:=List.nodup_iff_count.2 fun v=>by have:=J v;unfold bZ at this;omega
 exact⟨az,Mh n.toNat l az fun x aj=>by have:=U x aj;omega⟩
theorem hS.g6{B:Nat}{E:Int}{a_:Int->List dP}{cY bM:Int->Int}{L H:Int}{cN:Nat->jb}(h:hS B E a_ cY bM L H cN aX aS N):(∀v,jR (fun j=>bZ v (cN j).vs)+bZ v aX<=1)/\∀v,0<jR (fun j=>bZ v (cN j).vs)+bZ v aX->1<=v/\v<=aS:=by
 obtain⟨c,cF,U,aq,aK,bx⟩:=h.ex
 have az:∀v,0<=ms (fun k=>bZ v (cF k)) B:=fun v=>H7 fun k _ _=>sh _ _
 refine⟨fun v=>?_,fun v hv=>bx v ?_⟩
 .have:=aK v;have:=az v;unfold mu at*;omega
 .have:=az v;unfold mu;omega
theorem hS.tok{B:Nat}{E:Int}{a_:Int->List dP}{cY bM:Int->Int}{L H:Int}{cN:Nat->jb}(h:hS B E a_ cY bM L H cN aX aS N):((∀v,v∈aX->1<=v/\v<=aS)/\aX.Nodup/\aX.length<=aS.toNat)/\∀j,j<5->(cN j).vs.length<=aS.toNat:=by
 obtain⟨J,U⟩:=h.g6
 have nc:∀v,0<=jR (fun j=>bZ v (cN j).vs):=fun v=>(E1 (j:=0) I fun i _=>sh v (cN i).vs).2
 have hle:∀v j,j<5->bZ v (cN j).vs<=jR (fun j=>bZ v (cN j).vs):=fun v j ax=>(E1 (w:=fun j=>bZ v (cN j).vs) ax fun i _=>sh v (cN i).vs).1
 have bg:∀v,v∈aX->1<=v/\v<=aS:=fun v hv=>U v (by have:=Qe hv;have:=nc v;omega)
 have aq:=SS (l:=aX) (n:=aS) (fun v=>by have:=J v;have:=nc v;omega) bg
 refine⟨⟨bg,aq.1,aq.2⟩,fun j ax=>?_⟩
 exact(SS (l:=(cN j).vs) (n:=aS) (fun v=>by have:=J v;have:=hle v j ax;have:=sh v aX;omega) fun v hv=>U v (by have:=Qe hv;have:=hle v j ax;have:=sh v aX;omega)).2
theorem aBj(x:jU)(vs:List Int):vs.length<=(bU x vs).vs.length:=by
 cases x with
 |none=>exact Nat.le_refl _
 |lay u=>simp[bU]
 |b_ k v=>simp only[bU];split<;>exact Nat.le_refl _
 |stay k v i c=>exact Nat.le_refl _
 |take k R i c=>
  simp only[bU]
  split
  .split<;>exact Nat.le_refl _
  .exact Nat.le_refl _
 |leave k R=>exact Nat.le_refl _
theorem ev.other(h:ev p an ar a8 a z s vs aX aS N r){a':aE}{js:List Int}(dK:ei p a' z)(ob:a'.an=a.an/\a'.ar=a.ar)(m9:a'.inside=js/\a'.hq=5)(e6:a'.m.made=a.m.made)(dR:∀ay i,z.own ay= .lay i->a'.ws ay=a.ws ay):ev p an ar js a' z s vs aX aS N r:=by
 refine⟨dK,h.aQ,fun j ax=>?_,by rw[e6];exact h.md,h.iZ,h.dF,by rw[ob.1,ob.2];exact h.i',m9,h.lI,h.pc⟩
 obtain⟨r',J,_,aq⟩:=(h.loc j ax).frame (a':=a') (z':=z) (vs:=vs j) (fun _ _=>rfl) (fun ay au=>⟨au,dR ay j au⟩)
 rw[aq (.inl rfl)]at J;exact J
theorem ev.enter(h:ev p an ar a8 a z s vs aX aS N r){x:Int}(aj:x∉a8):ev p an ar (a8++[x]) (a.enter x) z s vs aX aS N r:=
 h.other (h.hm.enter (by rw[h.ins.1];exact aj)) ⟨rfl,rfl⟩ ⟨by show a.inside++[x]=_;rw[h.ins.1],h.ins.2⟩ rfl fun _ _ _=>rfl
theorem ev.out(h:ev p an ar a8 a z s vs aX aS N r)(x:Int)(bC:V):ev p an ar (a8.erase x) ((a.out x).cX bC) z s vs aX aS N r:=by
 obtain⟨J,U⟩:=h.hm.leave x bC
 exact h.other J ⟨rfl,rfl⟩ ⟨by show a.inside.erase x=_;rw[h.ins.1],h.ins.2⟩ (tz _ _).2.1 fun ay i au=>U ay (by rw[au];simp)
theorem ev.move(h:ev p an ar a8 a z s vs aX aS N r)(ax:j<5){x:jU}{vx:List Int}{td':List Int}{la' N':Int}{rx:Nat}
 (vB:hS p.B.toNat p.E z.a_ z.cY z.bM z.L z.H (bT (fun i=>bU (s i) (vs i)) j (bU x vx)) td' la' N') (o_:pi p a z j x rx) (e6:fi x-fi (s j)<=la'-aS) (kJ:0<=la'/\la'<=2000) (aF:0<=N') (dQ:3<=j\/∀l,x≠ .lay l):ev p an ar a8 a z (bT s j x) (bT vs j vx) td' la' N' (bT r j rx):=by
 refine⟨h.hm,by rw[ev.Le];exact vB,fun i aC=>?_,?_,kJ,aF,h.i',h.ins,fun i aC l=>?_,h.pc⟩
 .by_cases fq:i=j
  .subst fq;rw[ek,ek];exact o_
  .rw[gL _ _ fq,gL _ _ fq];exact h.loc i aC
 .rw[sR (w:=fi) ax x]
  have:=h.md;omega
 .by_cases fq:i=j
  .subst fq;rw[ek];exact(dQ.resolve_left I) l
  .rw[gL _ _ fq];exact h.lI i aC l
theorem RT(h:ev p an ar a8 a z s vs aX aS N r)(ax:j<5){x:jb}(aA:x.cd=(bU (s j) (vs j)).cd)(k:Int)(a5:0<=k)(J:k<p.B.toNat):kU k (z.cY k) (z.bM k) (bT (fun i=>(bU (s i) (vs i)).cd) j x.cd)/\z.cY k<=N+1:=by
 rw[aA,gz (fun i=>(bU (s i) (vs i)).cd) j]
 have:=h.aQ.cd k a5 J
 exact⟨this.1,I⟩
theorem ev.tell(h:ev p an ar a8 a z s vs aX aS N r)(ax:j<5)(aa:s j= .none):ev p an ar a8 a z s (bT vs j []) (aX++vs j) aS (N+1) r:=by
 have a5:r j=0:=by have:=h.loc j ax;rw[aa]at this;exact this
 have:=h.move ax (x:=.none) (vx:=[]) (td':=aX++vs j) (la':=aS) (N':=N+1) (rx:=0) ?_ rfl (by rw[aa];simp[fi]) h.iZ (by have:=h.dF;omega) (.inr fun _=>aM)
 .rw[<-aa,gz,<-a5,gz]at this;exact this
 .refine h.aQ.outer ax ?_ ?_ (fun k U aq=>RT h ax ?_ k U aq) ?_ ?_ ?_ (fun v=>.inl ?_) (Int.le_refl _) h.iZ.1
  .rw[aa];simp[bU]
  .simp[bU]
  .rw[aa];simp[bU]
  .simp[bU]
  .rw[aa];simp[bU]
  .simp[bU]
  .rw[aa];simp only[bU,rA,vu];omega
theorem ev.Ac(h:ev p an ar a8 a z s vs aX aS N r)(ax:j<5)(aa:s j= .none)(ah:0<=k/\k<p.B):ev p an ar a8 a z (bT s j (.b_ k ⟨k,0,0,0,[],[],false,.draw⟩)) vs aX aS (N+1) (bT r j (14*p.E.toNat+8)):=by
 have:=h.move ax (x:=.b_ k ⟨k,0,0,0,[],[],false,.draw⟩) (vx:=vs j) (td':=aX) (la':=aS) (N':=N+1) (rx:=14*p.E.toNat+8) (h.aQ.same ?_) ⟨ah,rfl,rfl,rfl,rfl⟩ (by rw[aa];simp[fi]) h.iZ (by have:=h.dF;omega) (.inr fun _=>aM)
 .rw[gz]at this;exact this
 .rw[aa];rfl
theorem BX:∀n:Nat,ms (fun _=>(0:Int)) n=0
 |0=>rfl
 |n+1=>by simp only[ms,BX n];omega
theorem ev.zE(h:ev p an ar a8 a z s vs aX aS N r)(ax:3<=j/\j<5)(aa:s j= .none)(kJ:aS<2000){key:Int}(eF:dZ key)(ah:0<=k/\k<p.B):ev p an ar a8 a z (bT s j (.lay ⟨key,aS+1,k,0,0,0,0,0,0,false,.draw⟩)) vs aX (aS+1) (N+1) (bT r j (18+2*p.E.toNat)):=by
 have aA:=h.iZ
 have:=h.move ax.2 (x:=.lay ⟨key,aS+1,k,0,0,0,0,0,0,false,.draw⟩) (vx:=vs j) (td':=aX) (la':=aS+1) (N':=N+1) (rx:=18+2*p.E.toNat) ?_ ⟨⟨⟨eF,⟨by show 0<=aS+1;omega,by show aS+1<_;omega⟩⟩,ah,rfl,rfl⟩,aM⟩ (by rw[aa];simp only[fi,h0];omega) I (by have:=h.dF;omega) (.inl ax.1)
 .rw[gz]at this;exact this
 .refine h.aQ.outer ax.2 ?_ ?_ (fun k U aq=>RT h ax.2 ?_ k U aq) ?_ ?_ ?_ (fun v=>?_) I h.iZ.1
  .rw[aa];simp[bU]
  .simp[bU,cD]
  .rw[aa];simp[bU,cD]
  .simp[bU,cD]
  .rw[aa];simp[bU]
  .simp[bU,cD]
  .by_cases e:v=aS+1
   .refine .inr ⟨fun w=>?_,e,I,?_⟩
    .have J:jR (fun j=>bZ w (bU (s j) (vs j)).vs)+bZ w aX<=1:=(h.aQ.g6).1 w
     have U:ms (fun _=>bZ w []) p.B.toNat=0:=BX _
     show ms (fun _=>bZ w []) p.B.toNat+(jR (fun j=>bZ w (bU (s j) (vs j)).vs)+bZ w aX)<=1
     omega
    .rw[aa];subst e;simp only[bU,cD,rA]
     have:bZ (aS+1) [aS+1]=1:=by simp[bZ]
     omega
   .left
    rw[aa];simp only[bU,cD,rA]
    have:bZ v [aS+1]=0:=by simp[bZ,List.count_singleton];exact fun h=>e h.symm
    omega
end
