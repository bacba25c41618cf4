/- Part of the proof of BatchOnce, for every input. -/
import Derived.Test.YtobokeclhlbnmaaGreatB17
set_option linter.all false
namespace Go.Proofs.Run
open Go Go.Abs
section
inductive dM(κ:fw) where
 |off
 |bK (b:bS κ)
 |dz (l:κ.L)
 |kZ
section
variable{κ:fw}
def bS.part(b:bS κ):w7 κ.V κ.R κ.L:=
 match b.hG with
 | .first=>.none
 | .enter=>.none
 | .entering v=>.b_ b.room v
 | .within v=>.stay b.room v b.i (b.keys.length-b.i)
 | .sT r=>.take b.room r b.i (b.keys.length-b.i)
 | .leaving r=>.leave b.room r
 | .fin=>.none
def dM.part:dM κ->w7 κ.V κ.R κ.L
 | .off=>.none
 | .bK b=>b.part
 | .dz l=>.lay l
 | .kZ=>.none
def dM.g6:dM κ->List Int
 | .bK b=>b.gU
 |_=>[]
def bS.base(D:Nat)(b:bS κ):Nat:=
 match b.hG with
 | .first=>(κ.e8-b.room).toNat*(D+2)+1
 | .enter=>(κ.e8-b.room).toNat*(D+2)+1
 | .fin=>0
 |_=>(κ.e8-b.room-1).toNat*(D+2)+1
def dM.base(D:Nat):dM κ->Nat
 | .bK b=>b.base D
 |_=>0
def bS.ok(b:bS κ):Prop:=
 (0<=b.room/\b.room<=κ.e8)/\b.gU.length=b.e3.length/\b.i<=b.keys.length/\b.keys.length<=64/\
 match b.hG with
 | .first=>b.room=0/\b.no=0/\b.cJ=false/\b.over=false
 | .enter=>b.no=0/\b.cJ=false/\b.over=false
 | .entering _=>b.room<κ.e8/\b.no=0/\b.cJ=false/\b.over=false
 | .within _=>b.room<κ.e8/\b.no=0/\b.cJ=false
 | .sT _=>b.room<κ.e8/\b.no=0/\b.cJ=false/\b.i<b.keys.length
 | .leaving _=>b.room<κ.e8/\b.no=0/\b.cJ=false
 | .fin=>(b.no=0\/b.no=2)/\b.cJ=true
structure hp(K:kj κ)(a8:List Int)(a:aE)(s:Nat->dM κ)(aX:List Int)(aS dc:Int)(M:Nat)(z:K.Z):Prop where
 fo:∃N r,N<=dc/\K.fo a8 a z (fun j=>(s j).part) (fun j=>(s j).g6) aX aS N r/\M=e2 r+e2 (fun j=>(s j).base K.D)
 ok:∀j b,j<5->s j= .bK b->b.ok
 lI:∀j,j<5->(3<=j->∀b,s j≠ .bK b)/\(j<3->∀l,s j≠ .dz l)
 ins:∀x:Int,x∈a8↔ ∃j:Nat,j<5/\x=(j:Int)/\s j≠ .off
theorem aEz(s:Nat->dM κ)(k:Nat)(x:dM κ):(fun j=>(bT s k x j).part)=bT (fun j=>(s j).part) k x.part:=by
 funext i;by_cases h:i=k
 .subst h;simp[bT]
 .simp[bT,h]
theorem aIU(s:Nat->dM κ)(k:Nat)(x:dM κ):(fun j=>(bT s k x j).g6)=bT (fun j=>(s j).g6) k x.g6:=by
 funext i;by_cases h:i=k
 .subst h;simp[bT]
 .simp[bT,h]
theorem avw(D:Nat)(s:Nat->dM κ)(k:Nat)(x:dM κ):(fun j=>(bT s k x j).base D)=bT (fun j=>(s j).base D) k (x.base D):=by
 funext i;by_cases h:i=k
 .subst h;simp[bT]
 .simp[bT,h]
variable{K:kj κ}{a8:List Int}{a:aE}{s:Nat->dM κ}{aX:List Int}{aS dc:Int}{M:Nat}{z:K.Z}{k:Nat}
theorem hp.next(h:hp K a8 a s aX aS dc M z)(ah:k<5){x:dM κ}{js:List Int}{a':aE}{z':K.Z}{td':List Int}{la' nb' N':Int}{r':Nat->Nat}
 (iy:K.fo js a' z' (bT (fun j=>(s j).part) k x.part) (bT (fun j=>(s j).g6) k x.g6) td' la' N' r') (aF:N'<=nb') (aj:∀b,x= .bK b->b.ok) (dQ:(3<=k->∀b,x≠ .bK b)/\(k<3->∀l,x≠ .dz l))
 (gA:∀y:Int,y∈js↔((y∈a8/\y≠k)\/(y=k/\x≠ .off))):
 hp K js a' (bT s k x) td' la' nb' (e2 r'+e2 (bT (fun j=>(s j).base K.D) k (x.base K.D))) z':=by
 refine⟨⟨N',r',aF,by rw[aEz,aIU];exact iy,by rw[avw]⟩,fun j b ax e=>?_,fun j ax=>?_,fun y=>?_⟩
 .by_cases qS:j=k
  .subst qS;rw[ek]at e;exact aj b e
  .rw[gL _ _ qS]at e;exact h.ok j b ax e
 .by_cases qS:j=k
  .subst qS;rw[ek];exact dQ
  .rw[gL _ _ qS];exact h.lI j ax
 .rw[gA,h.ins]
  constructor
  .rintro(⟨⟨j,ax,rfl,aa⟩,bp⟩|⟨rfl,aj⟩)
   .have qS:j≠k:=fun e=>bp (by rw[e])
    exact⟨j,ax,rfl,by rw[gL _ _ qS];exact aa⟩
   .exact⟨k,ah,rfl,by rw[ek];exact aj⟩
  .rintro⟨j,ax,rfl,aa⟩
   by_cases qS:j=k
   .subst qS;rw[ek]at aa;exact .inr ⟨rfl,aa⟩
   .rw[gL _ _ qS]at aa
    exact .inl ⟨⟨j,ax,rfl,aa⟩,I⟩
theorem hp.H6(h:hp K a8 a s aX aS dc M z)(ah:k<5)(aa:s k≠ .off){x:dM κ}(aj:x≠ .off):∀y:Int,y∈a8↔((y∈a8/\y≠k)\/(y=k/\x≠ .off)):=fun y=>by
 constructor
 .intro ai
  by_cases e:y=k
  .exact .inr ⟨e,aj⟩
  .exact .inl ⟨ai,e⟩
 .rintro(⟨ai,_⟩|⟨rfl,_⟩)
  .exact ai
  .exact(h.ins _).2 ⟨k,ah,rfl,aa⟩
theorem hp.mem(h:hp K a8 a s aX aS dc M z)(ah:k<5):(k:Int)∈a8↔s k≠ .off:=by
 rw[h.ins]
 constructor
 .rintro⟨j,ax,e,aa⟩
  have:j=k:=I
  rw[<-this];exact aa
 .intro aa;exact⟨k,ah,rfl,aa⟩
theorem hp.facts(h:hp K a8 a s aX aS dc M z):(a.an=κ.an/\a.ar=κ.ar)/\h5 a/\(a.inside=a8/\a.hq=5)/\((∀v,v∈aX->1<=v/\v<=aS)/\aX.Nodup/\aX.length<=2000/\0<=aS/\aS<=2000):=by
 obtain⟨N,r,_,iy,_⟩:=h.fo
 obtain⟨J,U,aq,aK,bx,cp⟩:=K.tok iy
 exact⟨K.i' iy,K.az iy,K.ins iy,J,U,aK,bx,cp⟩
theorem avv(K:kj κ)(b:bS κ)(ad:b.ok):b.base K.D<=κ.e8.toNat*(K.D+2)+1:=by
 obtain⟨⟨J,U⟩,_⟩:=ad
 have e:∀x:Int,x<=κ.e8->x.toNat*(K.D+2)+1<=κ.e8.toNat*(K.D+2)+1:=fun x aj=>by
  have:=Nat.mul_le_mul_right (K.D+2) (I:x.toNat<=κ.e8.toNat)
  omega
 unfold bS.base
 split
 .exact e _ I
 .exact e _ I
 .omega
 .exact e _ I
theorem hp.ix(h:hp K a8 a s aX aS dc M z):M<=5*(K.D+(κ.e8.toNat*(K.D+2)+1)):=by
 obtain⟨N,r,_,iy,k3⟩:=h.fo
 have ak:=fun j ax=>K.ix iy j ax
 have ad:∀j,j<5->(s j).base K.D<=κ.e8.toNat*(K.D+2)+1:=fun j ax=>by
  cases aa:s j with
  |bK b=>exact avv K b (h.ok j b ax aa)
  |off=>exact Nat.zero_le _
  |dz l=>exact Nat.zero_le _
  |kZ=>exact Nat.zero_le _
 rw[k3]
 simp only[e2]
 have FF:=ak 0 I
 have cR:=ak 1 I
 have b7:=ak 2 I
 have fF:=ak 3 I
 have gx:=ak 4 I
 have b0:=ad 0 I
 have b1:=ad 1 I
 have b2:=ad 2 I
 have b3:=ad 3 I
 have ox:=ad 4 I
 omega
def jv(K:kj κ)(z:K.Z)(x:dM κ):Prop:=K.W z x.part
theorem hp.mover(h:hp K a8 a s aX aS dc M z)(lG:∃j,j<5/\s j≠ .off):∃j,j<5/\s j≠ .off/\¬jv K z (s j):=by
 obtain⟨N,r,_,iy,k3⟩:=h.fo
 obtain⟨j,ax,aa⟩:=lG
 by_cases hw:jv K z (s j)
 .obtain⟨i,aC,J,U⟩:=K.prog iy ⟨j,ax,hw⟩
  exact⟨i,aC,fun e=>J (by simp only[e,dM.part]),U⟩
 .exact⟨j,ax,aa,hw⟩
theorem hp.QC(h:hp K a8 a s aX aS dc M z)(ah:k<3)(aa:s k= .off):∃fE,hp K (a8++[(k:Int)]) (a.enter k) (bT s k (.bK bS.rQ)) aX aS dc fE z:=by
 obtain⟨N,r,aF,iy,k3⟩:=h.fo
 have me:(k:Int)∉a8:=fun hm=>(h.mem I).1 hm aa
 have yY:=K.enter iy me
 have aD:(dM.bK (bS.rQ (κ:=κ))).part=(s k).part:=by rw[aa];rfl
 have aJ:(dM.bK (bS.rQ (κ:=κ))).g6=(s k).g6:=by rw[aa];rfl
 refine⟨_,h.next I (N':=N) (r':=r) ?_ aF (fun b e=>?_) ⟨I,fun _ l=>aM⟩ fun y=>?_⟩
 .rw[aD,aJ,gz (fun j=>(s j).part) k,gz (fun j=>(s j).g6) k];exact yY
 .simp only[dM.bK.injEq]at e
  subst e
  have:=K.e8
  exact⟨⟨by show(0:Int)<=0;omega,by show(0:Int)<=_;omega⟩,rfl,Nat.le_refl _,by show 0<=64;omega,rfl,rfl,rfl,rfl⟩
 .simp only[List.mem_append,List.mem_singleton]
  constructor
  .rintro(ai|rfl)
   .exact .inl ⟨ai,fun e=>me (e▸ai)⟩
   .exact .inr ⟨rfl,aM⟩
  .rintro(⟨ai,_⟩|⟨rfl,_⟩)
   .exact .inl ai
   .exact .inr rfl
theorem hp.axf(h:hp K a8 a s aX aS dc M z)(ah:3<=k/\k<5)(aa:s k= .off)(kJ:aS<2000){key:Int}(eF:dZ key){l:κ.L}(aA:κ.zF key (aS+1) l):∃fE,hp K (a8++[(k:Int)]) (a.enter k) (bT s k (.dz l)) aX (aS+1) (dc+1) fE z:=by
 obtain⟨N,r,aF,iy,k3⟩:=h.fo
 have me:(k:Int)∉a8:=fun hm=>(h.mem I).1 hm aa
 have yY:=K.enter iy me
 have cZ:(fun j=>(s j).part) k= .none:=by simp only[aa];rfl
 obtain⟨hl,_,J1⟩:=K.zE yY ah cZ kJ eF aA
 have aJ:(dM.dz l:dM κ).g6=(s k).g6:=by rw[aa];rfl
 refine⟨_,h.next (x:=.dz l) I (N':=N+1) (r':=bT r k hl) ?_ I (fun b e=>by cases e) ⟨fun _ b=>aM,I⟩ fun y=>?_⟩
 .rw[aJ,gz (fun j=>(s j).g6) k];exact J1
 .simp only[List.mem_append,List.mem_singleton]
  constructor
  .rintro(ai|rfl)
   .exact .inl ⟨ai,fun e=>me (e▸ai)⟩
   .exact .inr ⟨rfl,aM⟩
  .rintro(⟨ai,_⟩|⟨rfl,_⟩)
   .exact .inl ai
   .exact .inr rfl
theorem hp.leave(h:hp K a8 a s aX aS dc M z)(ah:k<5)(aa:(∃b,s k= .bK b/\b.cJ=true)\/s k= .kZ)(gO:a8.Nodup)(bC:V):∃fE,hp K (a8.erase (k:Int)) ((a.out k).cX bC) (bT s k .off) (aX++(s k).g6) aS (dc+1) fE z/\fE<=M:=by
 obtain⟨N,r,aF,iy,k3⟩:=h.fo
 have yY:=K.out (k:Int) bC iy
 have cZ:(s k).part= .none/\(s k).base K.D=0:=by
  rcases aa with⟨b,ad,aH⟩|aa
  .have gP:=h.ok k b ah ad
   rw[ad]
   obtain⟨_,_,_,_,eO⟩:=gP
   simp only[dM.part,bS.part,dM.base,bS.base]
   cases aB:b.hG<;>simp only[aB]at eO |- <;>first|exact⟨rfl,rfl⟩|exact⟨trivial,trivial⟩|(simp only[aH]at eO;simp at eO)
  .rw[aa];exact⟨rfl,rfl⟩
 have J1:=K.tell yY ah (by exact cZ.1)
 refine⟨_,h.next (x:=.off) ah (N':=N+1) (r':=r) ?_ I (fun b e=>by cases e) ⟨fun _ b=>aM,fun _ l=>aM⟩ fun y=>?_,?_⟩
 .have aD:(dM.off:dM κ).part=(s k).part:=cZ.1.symm
  rw[aD,gz (fun j=>(s j).part) k];exact J1
 .rw[gO.mem_erase_iff]
  constructor
  .rintro⟨J,U⟩;exact .inl ⟨U,J⟩
  .rintro(⟨J,U⟩|⟨_,U⟩)
   .exact⟨U,J⟩
   .exact absurd rfl U
 .have:=tQ (r:=fun j=>(s j).base K.D) ah ((dM.off:dM κ).base K.D)
  rw[cZ.2]at this
  have bP:(dM.off:dM κ).base K.D=0:=rfl
  rw[bP]at this |-
  omega
theorem hp.done(h:hp K a8 a s aX aS dc M z)(ah:k<5){b:bS κ}(aa:s k= .bK b)(aH:b.cJ=true):(b.no=0\/b.no=2)/\b.gU.length=b.e3.length/\b.gU.length<=2000:=by
 obtain⟨N,r,aF,iy,k3⟩:=h.fo
 obtain⟨_,_,aq,_⟩:=K.tok iy
 have:=aq k ah
 simp only[aa,dM.g6]at this
 obtain⟨_,J,_,_,eO⟩:=h.ok k b ah aa
 refine⟨?_,J,this⟩
 cases aB:b.hG<;>simp only[aB]at eO<;>first|exact eO.1|(simp only[aH]at eO;simp at eO)
end
end
section
section
variable{κ:fw}{K:kj κ}{a8:List Int}{a:aE}{s:Nat->dM κ}{aX:List Int}{aS dc:Int}{M:Nat}{z:K.Z}{k:Nat}
def Ce(K:kj κ)(a8:List Int)(s:Nat->dM κ)(aX:List Int)(aS dc:Int)(M:Nat)(z:K.Z)(k:Nat)(a':aE)(x:dM κ):Prop:=
 ∃fE z',hp K a8 a' (bT s k x) aX aS dc fE z'/\(jv K z (s k)->z'=z/\jv K z x/\fE=M)/\(¬jv K z (s k)->fE<M)
theorem hp.gX(h:hp K a8 a s aX aS dc M z)(ah:k<5)(v7:dc<1000000000){l:κ.L}(aa:s k= .dz l):κ.sF l=false/\κ.pA a l (fun a' l'=>Ce K a8 s aX aS (dc+1) M z k a' (bif κ.sF l' then .kZ else .dz l')):=by
 obtain⟨N,r,aF,iy,k3⟩:=h.fo
 have pw:=(h.lI k ah).1
 have az0:=(h.lI k ah).2
 have cZ:(fun j=>(s j).part) k= .lay l:=by simp only[aa];rfl
 obtain⟨J,U⟩:=K.LP iy ah I cZ
 have ad:(s k).base K.D=0:=by rw[aa];rfl
 have dx:jv K z (s k)↔K.W z ((fun j=>(s j).part) k):=Iff.rfl
 refine⟨J,K.LH U fun a' l' av=>?_⟩
 rcases av with⟨aq,z',r',aK,bx,cp⟩|⟨aq,cH,z',r',aK,bx⟩
 .have aJ:(dM.dz l':dM κ).g6=(s k).g6:=by rw[aa];rfl
  have az:=h.next (x:=.dz l') (a':=a') (z':=z') (r':=r') (N':=N+1) (nb':=dc+1) ah (by rw[aJ,gz (fun j=>(s j).g6) k];exact aK) I (fun b e=>by cases e) ⟨fun _ b=>aM,fun aq l=>absurd aa (az0 aq _)⟩ (h.H6 ah (by rw[aa];simp) aM)
  have mO:=tQ (r:=fun j=>(s j).base K.D) ah ((dM.dz l':dM κ).base K.D)
  have bP:(dM.dz l':dM κ).base K.D=0:=rfl
  rw[ad]at mO
  simp only[aq,cond_false]
  refine⟨_,z',az,fun hw=>?_,fun hw=>?_⟩
  .obtain⟨c6,cO,fc⟩:=bx hw
   refine⟨c6,cO,?_⟩
   rw[fc,k3];omega
  .have:=cp hw;omega
 .have aJ:(dM.kZ:dM κ).g6=(s k).g6:=by rw[aa];rfl
  have az:=h.next (x:=.kZ) (a':=a') (z':=z') (r':=r') (N':=N+1) (nb':=dc+1) ah (by rw[aJ,gz (fun j=>(s j).g6) k];exact aK) I (fun b e=>by cases e) ⟨fun _ b=>aM,fun _ l=>aM⟩ (h.H6 ah (by rw[aa];simp) aM)
  have mO:=tQ (r:=fun j=>(s j).base K.D) ah ((dM.kZ:dM κ).base K.D)
  have bP:(dM.kZ:dM κ).base K.D=0:=rfl
  rw[ad]at mO
  simp only[aq,cond_true]
  exact⟨_,z',az,fun hw=>absurd hw cH,fun _=>I⟩
structure Im(b:bS κ):Prop where
 room:0<=b.room/\b.room<κ.e8
 xb:b.gU.length=b.e3.length
 GR:b.i<=b.keys.length
 Bq:b.keys.length<=64
 no:b.no=0
 cJ:b.cJ=false
def Fb(K:kj κ)(a8:List Int)(hk:Iw κ)(oQ:Nat->List Int)(aX:List Int)(aS N:Int)(r:Nat->Nat)(z:K.Z)(k:Nat)(x:w7 κ.V κ.R κ.L)(base:Nat)(a':aE)(b':bS κ):Prop:=
 ∃z' r',K.fo a8 a' z' (bT hk k b'.part) (bT oQ k b'.gU) aX aS (N+1) r'/\b'.ok/\b'.base K.D<=base/\(K.W z x->z'=z/\K.W z b'.part/\r'=r/\b'.base K.D=base)/\(¬K.W z x->e2 r'<e2 r)
variable{hk:Iw κ}{oQ:Nat->List Int}{N:Int}{r:Nat->Nat}{b:bS κ}
theorem N3{v:κ.V}(iy:K.fo a8 a z (bT hk k (.b_ b.room v)) oQ aX aS N r)(ah:k<5)(aF:N<1000000000)(au:Im b)(nI:b.over=false)(hv:oQ k=b.gU):
 uk a b v (Fb K a8 hk oQ aX aS N r z k (.b_ b.room v) ((κ.e8-b.room-1).toNat*(K.D+2)+1)):=by
 have ak:=au.room
 refine K.H' (K.NH iy ah aF (ek _ _ _)) fun a' v' av=>?_
 rw[ek]at av
 rcases av with⟨J,U,z',r',aq,aK,bx⟩|⟨J,U,cp,cH,z',r',aq,bx⟩
 .rw[xo]at aq
  have e:b.ig v'={b with hG:=.entering v'}:=by simp[bS.ig,J,U]
  refine⟨by simp[J],K.i' aq,?_⟩
  rw[e]
  refine⟨z',r',?_,⟨⟨ak.1,by show b.room<=_;omega⟩,au.xb,au.GR,au.Bq,ak.2,au.no,au.cJ,nI⟩,Nat.le_refl _,fun hw=>?_,bx⟩
  .rw[show({b with hG:=.entering v'}:bS κ).gU=oQ k from hv.symm,gz];exact aq
  .obtain⟨c6,cO,fc⟩:=aK hw
   exact⟨c6,cO,fc,rfl⟩
 .rw[xo]at aq
  have e:b.ig v'={b with bH:=true,keys:=κ.iP v',i:=0,over:=decide (64<b.e3.length+(κ.iP v').length/\0< (κ.iP v').length),hG:=.within v'}:=by
   simp only[bS.ig,J,U,if_true,true_and]
   congr 1
   .have:=au.no
    split
    .rw[if_neg I];exact this.symm
    .rfl
   .by_cases af:64<b.e3.length+(κ.iP v').length/\0< (κ.iP v').length
    .rw[if_pos af,decide_eq_true af]
    .rw[if_neg af,decide_eq_false af,nI]
  refine⟨fun _=>⟨U,I⟩,K.i' aq,?_⟩
  rw[e]
  refine⟨z',r',?_,⟨⟨ak.1,by show b.room<=_;omega⟩,au.xb,Nat.zero_le _,cp,ak.2,au.no,au.cJ⟩,Nat.le_refl _,fun hw=>absurd hw cH,fun _=>bx⟩
  show K.fo a8 a' z' (bT hk k (.stay b.room v' 0 ((κ.iP v').length-0))) (bT oQ k b.gU) aX aS (N+1) r'
  rw[<-hv,gz];exact aq
theorem N5{R:κ.R}(iy:K.fo a8 a z (bT hk k (.take b.room R b.i (b.keys.length-b.i))) oQ aX aS N r)(ah:k<5)(aF:N<1000000000)(au:Im b)(aC:b.i<b.keys.length)(hv:oQ k=b.gU):
 xf a b R (Fb K a8 hk oQ aX aS N r z k (.take b.room R b.i (b.keys.length-b.i)) ((κ.e8-b.room-1).toNat*(K.D+2)+1)):=by
 have ak:=au.room
 have oB:=au.Bq
 have cH:=fun i c=>K.yk (z:=z) |>.2.2.2.1 b.room R i c
 refine⟨aC,I,K.BV (K.M8 iy ah aF (ek _ _ _)) fun a' gT av=>?_⟩
 obtain⟨a5,J,av⟩:=av
 rcases av with⟨U,z',r',aq,aK⟩|⟨U,bx,v',z',r',cp,aq,aK⟩
 .rw[xo]at aq
  refine⟨⟨a5,J⟩,K.i' aq,z',r',?_,?_,?_,fun hw=>absurd hw (cH _ _),fun _=>aK⟩
  .have aD:(b.b_ gT).part= .take b.room gT b.i (b.keys.length-b.i):=by simp[bS.b_,bS.part,U]
   have aJ:(b.b_ gT).gU=if κ.oL gT=true then oQ k++[κ.x' gT]else oQ k:=by simp[bS.b_,hv]
   rw[aD,aJ];exact aq
  .simp only[bS.b_,bS.ok,U,Bool.false_eq_true,if_false]
   refine⟨⟨ak.1,I⟩,?_,au.GR,au.Bq,ak.2,au.no,au.cJ,aC⟩
   have:=au.xb
   split<;>simp[this]
  .simp[bS.b_,bS.base,U]
 .rw[xo]at aq
  have he:κ.oL gT=false:=by
   cases ad:κ.oL gT with
   |false=>rfl
   |true=>have:=J ad;rw[U]at this;cases this
  have e:b.b_ gT={b with i:=b.i+1,hG:=.within v'}:=by simp[bS.b_,U,he,cp]
  refine⟨⟨a5,J⟩,K.i' aq,?_⟩
  rw[e]
  refine⟨z',r',?_,⟨⟨ak.1,by show b.room<=_;omega⟩,au.xb,by show b.i+1<=b.keys.length;omega,au.Bq,ak.2,au.no,au.cJ⟩,Nat.le_refl _,fun hw=>absurd hw (cH _ _),fun _=>aK⟩
  show K.fo a8 a' z' (bT hk k (.stay b.room v' (b.i+1) (b.keys.length- (b.i+1)))) (bT oQ k b.gU) aX aS (N+1) r'
  rw[<-hv,gz,show b.keys.length- (b.i+1)=b.keys.length-b.i-1 by omega];exact aq
theorem N4{R:κ.R}(iy:K.fo a8 a z (bT hk k (.leave b.room R)) oQ aX aS N r)(ah:k<5)(aF:N<1000000000)(au:Im b)(hv:oQ k=b.gU):
 xe a b R (Fb K a8 hk oQ aX aS N r z k (.leave b.room R) ((κ.e8-b.room-1).toNat*(K.D+2)+1)):=by
 have ak:=au.room
 have cH:=K.yk (z:=z) |>.2.2.2.2 b.room R
 refine K.BV (K.LR iy ah aF (ek _ _ _)) fun a' gT av=>?_
 obtain⟨U,z',r',aq,aK⟩:=av
 rw[xo]at aq
 refine⟨K.i' aq,?_⟩
 cases nI:b.over with
 |true=>
  have e:b.cF gT={b with cJ:=true,hG:=.fin}:=by simp[bS.cF,U,nI]
  rw[e]
  refine⟨z',r',?_,⟨⟨ak.1,by show b.room<=_;omega⟩,au.xb,au.GR,au.Bq,.inl au.no,rfl⟩,Nat.zero_le _,fun hw=>absurd hw cH,fun _=>aK⟩
  show K.fo a8 a' z' (bT hk k .none) (bT oQ k b.gU) aX aS (N+1) r'
  rw[<-hv,gz];exact aq
 |false=>
  have e:b.cF gT={b with room:=b.room+1,hG:=.enter}:=by simp[bS.cF,U,nI]
  rw[e]
  refine⟨z',r',?_,⟨⟨by show 0<=b.room+1;omega,by show b.room+1<=_;omega⟩,au.xb,au.GR,au.Bq,au.no,au.cJ,nI⟩,?_,fun hw=>absurd hw cH,fun _=>aK⟩
  .show K.fo a8 a' z' (bT hk k .none) (bT oQ k b.gU) aX aS (N+1) r'
   rw[<-hv,gz];exact aq
  .show(κ.e8- (b.room+1)).toNat*(K.D+2)+1<=_
   rw[show κ.e8- (b.room+1)=κ.e8-b.room-1 by omega]
   exact Nat.le_refl _
theorem PN{v:κ.V}{Q Q':aE->bS κ->Prop}(K:kj κ)(h:uk a b v Q)(bO:∀a' b',Q a' b'->Q' a' b'):uk a b v Q':=K.H' h fun _ _ h=>⟨h.1,h.2.1,bO _ _ h.2.2⟩
theorem PQ{v:κ.R}{Q Q':aE->bS κ->Prop}(K:kj κ)(h:xf a b v Q)(bO:∀a' b',Q a' b'->Q' a' b'):xf a b v Q':=⟨h.1,h.2.1,K.BV h.2.2 fun _ _ h=>⟨h.1,h.2.1,bO _ _ h.2.2⟩⟩
theorem PP{v:κ.R}{Q Q':aE->bS κ->Prop}(K:kj κ)(h:xe a b v Q)(bO:∀a' b',Q a' b'->Q' a' b'):xe a b v Q':=K.BV h fun _ _ h=>⟨h.1,bO _ _ h.2⟩
theorem hp.put(h:hp K a8 a s aX aS dc M z)(ah:k<5){b0:bS κ}(aa:s k= .bK b0){nb':Int}{x:w7 κ.V κ.R κ.L}{base:Nat}(aF:N+1<=nb')(k3:M=e2 r+e2 (fun j=>(s j).base K.D)\/(¬K.W z x/\¬jv K z (s k)/\e2 r+base<=M-e2 (fun j=>(s j).base K.D)+b0.base K.D))(dx:¬jv K z (s k)/\¬K.W z x\/b0.part=x)(ad:b0.base K.D=base\/(¬K.W z x/\¬jv K z (s k)/\base<=b0.base K.D)){a':aE}{b':bS κ}(aw:Fb K a8 (fun j=>(s j).part) (fun j=>(s j).g6) aX aS N r z k x base a' b'):Ce K a8 s aX aS nb' M z k a' (.bK b'):=by
 obtain⟨z',r',J,U,aq,aK,bx⟩:=aw
 have pw:=h.lI k ah
 have az:=h.next (x:=.bK b') (a':=a') (z':=z') (r':=r') (N':=N+1) (nb':=nb') ah J aF (fun b e=>by simp only[dM.bK.injEq]at e;subst e;exact U) ⟨fun aq b=>absurd aa (pw.1 aq _),fun _ l=>aM⟩ (h.H6 ah (by rw[aa];simp) aM)
 have mO:=tQ (r:=fun j=>(s j).base K.D) ah ((dM.bK b':dM κ).base K.D)
 have eE:(fun j=>(s j).base K.D) k=b0.base K.D:=by simp only[aa];rfl
 have Qv:(dM.bK b':dM κ).base K.D=b'.base K.D:=rfl
 have GB:(s k).base K.D=b0.base K.D:=eE
 rw[GB,Qv]at mO
 rw[Qv]at az
 refine⟨_,z',az,fun hw=>?_,fun hw=>?_⟩
 .rcases dx with⟨cp,_⟩|cp
  .exact absurd hw cp
  .have hb:K.W z x:=by rw[<-cp];have:=hw;unfold jv at this;rw[aa]at this;exact this
   obtain⟨c6,cO,fc,kR⟩:=aK hb
   refine⟨c6,cO,?_⟩
   rcases k3 with k3|⟨k3,_⟩
   .rcases ad with ad|⟨ad,_⟩
    .rw[fc,k3];omega
    .exact absurd hb ad
   .exact absurd hb k3
 .have hb:¬K.W z x:=by
   rcases dx with⟨_,cp⟩|cp
   .exact cp
   .rw[<-cp];intro fI;apply hw;unfold jv;rw[aa];exact fI
  have cp:=bx hb
  have jJ:b0.base K.D<=e2 (fun j=>(s j).base K.D):=by rw[<-GB];exact aH0 (r:=fun j=>(s j).base K.D) ah
  rcases k3 with k3|⟨_,_,k3⟩
  .rcases ad with ad|⟨_,_,ad⟩<;>omega
  .obtain⟨aJL,hl,_,_,aKA⟩:=h.fo
   omega
theorem hp.stepT(h:hp K a8 a s aX aS dc M z)(ah:k<5)(v7:dc<900000000){b:bS κ}(aa:s k= .bK b)(aH:b.cJ=false):Jc a {b with bH:=false} (fun a' b'=>Ce K a8 s aX aS (dc+2) M z k a' (.bK b')):=by
 obtain⟨N,r,aF,iy,k3⟩:=h.fo
 obtain⟨_,_,Bk,_⟩:=K.tok iy
 have Bk:=Bk k ah
 have aK5:=K.e8
 have hv:(fun j=>(s j).g6) k=({b with bH:=false}:bS κ).gU:=by simp only[aa];rfl
 have wc:(fun j=>(s j).part) k=b.part:=by simp only[aa];rfl
 have qN:=h.ok k b ah aa
 obtain⟨⟨d_,dL⟩,qM,xA,oB,eO⟩:=qN
 have J3:jv K z (s k)↔K.W z b.part:=by unfold jv;rw[aa];rfl
 have Bl:=K.yk (z:=z)
 have GB:(s k).base K.D=b.base K.D:=by rw[aa];rfl
 simp only[aa,dM.g6]at Bk
 refine⟨by show b.e3.length<100000;omega,⟨d_,by show b.room<100000;omega⟩,?_⟩
 have RC:∀{sC:Int},b.part= .none->b.base K.D=(κ.e8-b.room).toNat*(K.D+2)+1->sC=b.room->b.room<κ.e8->b.no=0->b.over=false->uk a {b with bH:=false} (κ.tU sC) (fun a' b'=>Ce K a8 s aX aS (dc+2) M z k a' (.bK b')):=fun{sC} iK jJ cZ lZ dy nI=>by
  subst cZ
  obtain⟨hl,aK4,yY⟩:=K.Ac iy ah (wc.trans iK) ⟨d_,lZ⟩
  have bB:=K.zero iy k ah (wc.trans iK)
  have aK7:=tQ (r:=r) ah hl
  have xI:¬jv K z (s k):=by rw[J3,iK];exact Bl.1
  have v5:=Bl.2.1 b.room
  have hmul:(κ.e8-b.room).toNat*(K.D+2)=(κ.e8-b.room-1).toNat*(K.D+2)+(K.D+2):=by
   rw[show(κ.e8-b.room).toNat=(κ.e8-b.room-1).toNat+1 by omega,Nat.add_mul];omega
  refine PN K (N3 (b:={b with bH:=false}) yY ah I ⟨⟨d_,lZ⟩,qM,xA,oB,dy,aH⟩ nI hv) fun a' b' aw=>?_
  refine h.put ah aa I (.inr ⟨v5,xI,?_⟩) (.inl ⟨xI,v5⟩) (.inr ⟨v5,xI,?_⟩) aw
  .rw[jJ]
   show e2 (bT r k hl)+((κ.e8-b.room-1).toNat*(K.D+2)+1)<=_
   omega
  .rw[jJ]
   show(κ.e8-b.room-1).toNat*(K.D+2)+1<=_
   omega
 cases aB:b.hG with
 |first=>
  simp only[aB]at eO |-
  exact⟨eO.1,I,RC (by simp[bS.part,aB]) (by simp[bS.base,aB]) eO.1.symm I eO.2.1 eO.2.2.2⟩
 |enter=>
  simp only[aB]at eO |-
  refine⟨fun Gj=>?_,fun ap=>RC (by simp[bS.part,aB]) (by simp[bS.base,aB]) rfl ap eO.1 eO.2.2⟩
  have iK:b.part= .none:=by simp[bS.part,aB]
  have yZ:K.fo a8 a z (bT (fun j=>(s j).part) k .none) (bT (fun j=>(s j).g6) k b.gU) aX aS N r:=by
   rw[<-iK,<-wc,gz (fun j=>(s j).part) k]
   have aD:b.gU=(fun j=>(s j).g6) k:=hv.symm
   rw[aD,gz (fun j=>(s j).g6) k];exact iy
  have az:=h.next (x:=.bK (({b with bH:=false}:bS κ).end_)) (a':=a) (z':=z) (r':=r) (N':=N) (nb':=dc+2) ah yZ I (fun b' e=>by simp only[dM.bK.injEq]at e;subst e;exact⟨⟨d_,dL⟩,qM,xA,oB,.inr rfl,rfl⟩) ⟨fun aq b=>absurd aa ((h.lI k ah).1 aq _),fun _ l=>aM⟩ (h.H6 ah (by rw[aa];simp) aM)
  have mO:=tQ (r:=fun j=>(s j).base K.D) ah ((dM.bK (({b with bH:=false}:bS κ).end_):dM κ).base K.D)
  have bP:(dM.bK (({b with bH:=false}:bS κ).end_):dM κ).base K.D=0:=rfl
  have g0:b.base K.D=(κ.e8-b.room).toNat*(K.D+2)+1:=by simp[bS.base,aB]
  rw[GB,bP,g0]at mO
  rw[bP]at az
  refine⟨_,z,az,fun hw=>?_,fun _=>I⟩
  rw[J3,iK]at hw
  exact absurd hw Bl.1
 |entering v=>
  simp only[aB]at eO |-
  have iK:b.part= .b_ b.room v:=by simp[bS.part,aB]
  have yZ:K.fo a8 a z (bT (fun j=>(s j).part) k (.b_ b.room v)) (fun j=>(s j).g6) aX aS N r:=by
   rw[<-iK,<-wc,gz (fun j=>(s j).part) k];exact iy
  refine PN K (N3 (b:={b with bH:=false}) yZ ah I ⟨⟨d_,eO.1⟩,qM,xA,oB,eO.2.1,aH⟩ eO.2.2.2 hv) fun a' b' aw=>?_
  exact h.put ah aa I (.inl k3) (.inr iK) (.inl (by simp[bS.base,aB])) aw
 |within v=>
  simp only[aB]at eO |-
  have iK:b.part= .stay b.room v b.i (b.keys.length-b.i):=by simp[bS.part,aB]
  have cZ:(fun j=>(s j).part) k= .stay b.room v b.i (b.keys.length-b.i):=by rw[wc,iK]
  have xI:¬jv K z (s k):=by rw[J3,iK];exact Bl.2.2.1 _ _ _ _
  have eE:b.base K.D=(κ.e8-b.room-1).toNat*(K.D+2)+1:=by simp[bS.base,aB]
  refine⟨fun au=>?_,fun au=>?_⟩
  .obtain⟨J,U,r',aq,aK⟩:=K.LO iy ah cZ
   refine⟨J,U,?_⟩
   refine PP K (N4 (b:={b with bH:=false}) aq ah I ⟨⟨d_,eO.1⟩,qM,xA,oB,eO.2.1,aH⟩ hv) fun a' b' aw=>?_
   have v5:=Bl.2.2.2.2 b.room (κ.pH v)
   refine h.put ah aa I (.inr ⟨v5,xI,?_⟩) (.inl ⟨xI,v5⟩) (.inl eE) aw
   rw[eE]
   show e2 r'+((κ.e8-b.room-1).toNat*(K.D+2)+1)<=_
   omega
  .have aC:b.i<b.keys.length:=by
    have:¬b.i=b.keys.length:=fun e=>au (.inr e)
    omega
   obtain⟨J,U,aq,r',aK,bx⟩:=K.NC iy ah cZ I
   refine⟨J,U,aq,?_⟩
   refine PQ K (N5 (b:={b with bH:=false}) aK ah I ⟨⟨d_,eO.1⟩,qM,xA,oB,eO.2.1,aH⟩ aC hv) fun a' b' aw=>?_
   have v5:=Bl.2.2.2.1 b.room (κ.nO v b.i) b.i (b.keys.length-b.i)
   refine h.put ah aa I (.inr ⟨v5,xI,?_⟩) (.inl ⟨xI,v5⟩) (.inl eE) aw
   rw[eE]
   show e2 r'+((κ.e8-b.room-1).toNat*(K.D+2)+1)<=_
   omega
 |sT R=>
  simp only[aB]at eO |-
  have iK:b.part= .take b.room R b.i (b.keys.length-b.i):=by simp[bS.part,aB]
  have yZ:K.fo a8 a z (bT (fun j=>(s j).part) k (.take b.room R b.i (b.keys.length-b.i))) (fun j=>(s j).g6) aX aS N r:=by
   rw[<-iK,<-wc,gz (fun j=>(s j).part) k];exact iy
  refine PQ K (N5 (b:={b with bH:=false}) yZ ah I ⟨⟨d_,eO.1⟩,qM,xA,oB,eO.2.1,aH⟩ eO.2.2.2 hv) fun a' b' aw=>?_
  exact h.put ah aa I (.inl k3) (.inr iK) (.inl (by simp[bS.base,aB])) aw
 |leaving R=>
  simp only[aB]at eO |-
  have iK:b.part= .leave b.room R:=by simp[bS.part,aB]
  have yZ:K.fo a8 a z (bT (fun j=>(s j).part) k (.leave b.room R)) (fun j=>(s j).g6) aX aS N r:=by
   rw[<-iK,<-wc,gz (fun j=>(s j).part) k];exact iy
  refine PP K (N4 (b:={b with bH:=false}) yZ ah I ⟨⟨d_,eO.1⟩,qM,xA,oB,eO.2.1,aH⟩ hv) fun a' b' aw=>?_
  exact h.put ah aa I (.inl k3) (.inr iK) (.inl (by simp[bS.base,aB])) aw
 |fin=>simp only[aB]at eO;rw[aH]at eO;simp at eO
end
end
section
def rr(M:w6):List dP->Int->Prop
 |[],_=>True
 |e::r,nx=>M e.h=some [e.key,e.val,di r nx]/\rr M r nx
theorem wO{M:w6}:∀{l r:List dP} {nx:Int},rr M (l++r) nx↔rr M l (di r nx)/\rr M r nx
 |[],r,nx=>by simp[rr]
 |e::l,r,nx=>by
  simp only[List.cons_append,rr,wO (l:=l),uC,and_assoc]
theorem rr.congr{M fE:w6}:∀{l:List dP} {nx:Int},rr M l nx->(∀e∈l,fE e.h=M e.h)->rr fE l nx
 |[],_,_,_=>trivial
 |e::r,nx,h,he=>⟨by rw[he e aM];exact h.1,h.2.congr fun x aj=>he x (by simp[aj])⟩
theorem rr.at_{M:w6}:∀{l:List dP} {nx:Int} {e:dP},rr M l nx->e∈l->∃x,M e.h=some [e.key,e.val,x]
 |[],_,_,_,h=>by simp at h
 |ee::r,nx,e,h,he=>by
  rcases List.mem_cons.1 he with rfl|he
  .exact⟨_,h.1⟩
  .exact h.2.at_ he
def ml(R:Int)(pre:List dP):Int×Int:=
 match pre.getLast? with
 |none=>(R,2)
 |some e=>(e.h,2)
theorem DS(R:Int)(pre:List dP)(e:dP):ml R (pre++[e])=(e.h,2):=by simp[ml]
structure l8 where
 a_:List dP
 hx:List dP
 own:Int->vp
 cY:Int
 bM:Int
 L:Int
structure eQ(p:ff)(a:aE)(z:l8):Prop where
 az:h5 a
 an:a.m.made<1000000
 root:a.ws p.R=some [z.cY,z.bM,di z.a_ 0,z.L]
 jF:rr a.ws z.a_ 0
 de:(z.a_.map (·.h)).Nodup
 et:z.own p.R= .root
 e7:∀e∈z.a_,z.own e.h= .room 0
 ia:∀w∈a.queue,z.own w.h= .queue
 of:∀h,z.own h≠ .none->0<h/\h<=a.m.made
section
variable{p:ff}{a:aE}{z:l8}
theorem eQ.n3(h:eQ p a z){e:dP}(he:e∈z.a_):0<e.h/\e.h<1000000:=by
 have:=h.of e.h (by rw[h.e7 e he];simp)
 have:=h.an;omega
theorem eQ.tick(h:eQ p a z):eQ p a.tick z:=⟨h.az.tick,h.an,h.root,h.jF,h.de,h.et,h.e7,h.ia,h.of⟩
theorem eQ.hx(h:eQ p a z)(v:List dP):eQ p a {z with hx:=v}:=⟨h.az,h.an,h.root,h.jF,h.de,h.et,h.e7,h.ia,h.of⟩
theorem eQ.aeF(h:eQ p a z):a.at_ p.R 0 z.cY:=lO h.root I rfl
theorem eQ.HK(h:eQ p a z):a.at_ p.R 1 z.bM:=lO h.root I rfl
theorem eQ.BT(h:eQ p a z):a.at_ p.R 2 (di z.a_ 0):=lO h.root I rfl
theorem eQ.M0(h:eQ p a z):a.at_ p.R 3 z.L:=lO h.root I rfl
theorem eQ.u6(h:eQ p a z){pre post:List dP}(af:z.a_=pre++post):a.at_ (ml p.R pre).1 (ml p.R pre).2 (di post 0):=by
 cases aA:pre.getLast? with
 |none=>
  have:pre=[]:=List.getLast?_eq_none_iff.1 aA
  subst this
  simp only[ml,List.getLast?_nil]
  rw[List.nil_append]at af
  rw[<-af];exact h.BT
 |some e=>
  obtain⟨l,rfl⟩:=List.getLast?_eq_some_iff.1 aA
  have aa:=h.jF
  rw[af,List.append_assoc,wO]at aa
  simp only[ml,aA]
  exact lO aa.2.1 I rfl
theorem eQ.x9(h:eQ p a z){e:dP}(he:e∈z.a_):∃x,a.ws e.h=some [e.key,e.val,x]:=h.jF.at_ he
theorem eQ.rd_key(h:eQ p a z){e:dP}(he:e∈z.a_):a.at_ e.h 0 e.key:=by
 obtain⟨x,aj⟩:=h.x9 he
 exact lO aj I rfl
theorem eQ.rd_val(h:eQ p a z){e:dP}(he:e∈z.a_):a.at_ e.h 1 e.val:=by
 obtain⟨x,aj⟩:=h.x9 he
 exact lO aj I rfl
theorem eQ.aeH(h:eQ p a z){pre post:List dP}{e:dP}(af:z.a_=pre++e::post):a.at_ e.h 2 (di post 0):=by
 have aa:=h.jF
 rw[af,wO]at aa
 exact lO aa.2.1 I rfl
theorem eQ.Hi(h:eQ p a z){e:dP}(he:e∈z.a_):e.h≠p.R:=fun aD=>by have:=h.e7 e he;rw[aD,h.et]at this;simp at this
theorem eQ.tK(h:eQ p a z){i v:Int}{z':l8}(J:z'.a_=z.a_)(U:z'.own=z.own)(aq:[z.cY,z.bM,di z.a_ 0,z.L].set i.toNat v=[z'.cY,z'.bM,di z.a_ 0,z'.L]):eQ p (a.put p.R i v) z':=by
 refine⟨h.az.put _ _ _,h.an,?_,?_,by rw[J];exact h.de,by rw[U];exact h.et,by rw[J,U];exact h.e7,by rw[U];exact h.ia,by rw[U];exact h.of⟩
 .rw[oo,h.root,J,<-aq];simp
 .rw[J];exact h.jF.congr fun e he=>hI (h.Hi he)
theorem eQ.Mk(h:eQ p a z){bd i v:Int}{j:Nat}(au:z.own bd= .lay j):eQ p (a.put bd i v) z:=by
 have bp:∀ay,z.own ay≠ .lay j->ay≠bd:=fun ay J e=>J (by rw[e];exact au)
 exact⟨h.az.put _ _ _,h.an,by rw[hI (bp _ (by rw[h.et];simp))];exact h.root,h.jF.congr fun e he=>hI (bp _ (by rw[h.e7 e he];simp)),h.de,h.et,h.e7,h.ia,h.of⟩
theorem eQ.make(h:eQ p a z)(hm:a.m.made+1<1000000)(j b:Nat):eQ p (a.make 3 b) {z with own:=ez z.own (a.m.made+1) (.lay j)}/\(a.make 3 b).ws (a.m.made+1)=some [0,0,0]/\(∀ay,ay≠a.m.made+1->(a.make 3 b).ws ay=a.ws ay)/\z.own (a.m.made+1)= .none:=by
 have hle:∀r∈a.m.live,r.h<=a.m.made:=fun r ak=>(h.az.le r ak).2
 have e:∀ay,ay≠a.m.made+1->(a.make 3 b).ws ay=a.ws ay:=fun ay bp=>by rw[E8 hle,if_neg bp]
 have lG:z.own (a.m.made+1)= .none:=by
  cases au:z.own (a.m.made+1)with
  |none=>rfl
  |root=>have:=(h.of _ (by rw[au];simp)).2;omega
  |room k=>have:=(h.of _ (by rw[au];simp)).2;omega
  |lay j=>have:=(h.of _ (by rw[au];simp)).2;omega
  |queue=>have:=(h.of _ (by rw[au];simp)).2;omega
 have bp:∀ay,z.own ay≠ .none->ay≠a.m.made+1:=fun ay J e=>J (by rw[e];exact lG)
 refine⟨⟨h.az.make 3 b,hm,by rw[e _ (bp _ (by rw[h.et];simp))];exact h.root,h.jF.congr fun x aj=>e _ (bp _ (by rw[h.e7 x aj];simp)),h.de,?_,fun x aj=>?_,fun w hw=>?_,fun ay au=>?_⟩,by rw[E8 hle,if_pos rfl];rfl,e,lG⟩
 .simp only[dT _ _ (bp _ (by rw[h.et];simp))];exact h.et
 .simp only[dT _ _ (bp _ (by rw[h.e7 x aj];simp))];exact h.e7 x aj
 .have:(a.make 3 b).queue=a.queue:=rfl
  rw[this]at hw
  simp only[dT _ _ (bp _ (by rw[h.ia w hw];simp))];exact h.ia w hw
 .show 0<ay/\ay<=a.m.made+1
  have:=h.az.q1
  by_cases aJ:ay=a.m.made+1
  .omega
  .simp only[dT _ _ aJ]at au
   have:=h.of ay au;omega
theorem eQ.Ml(h:eQ p a z){pre post:List dP}{e:dP}(af:z.a_=pre++e::post)(v:Int)(hx:List dP):
 eQ p (a.put e.h 1 v) {z with a_:=pre++{e with val:=v}::post,hx:=hx}/\(∀ay,z.own ay≠ .room 0->(a.put e.h 1 v).ws ay=a.ws ay):=by
 have hJ:e∈z.a_:=by rw[af];simp
 have kK:=h.e7 e hJ
 have bp:∀ay,z.own ay≠ .room 0->ay≠e.h:=fun ay J aD=>J (by rw[aD];exact kK)
 have aa:=h.jF
 rw[af,wO]at aa
 obtain⟨qb,mO,sx⟩:=aa
 have gO:=h.de
 rw[af]at gO
 obtain⟨bq,aT⟩:=D9 gO
 have gn:(pre++{e with val:=v}::post).map (·.h)=(pre++e::post).map (·.h):=aM
 refine⟨⟨h.az.put _ _ _,h.an,?_,?_,by rw[gn];exact gO,h.et,fun x aj=>?_,h.ia,h.of⟩,fun ay au=>hI (bp ay au)⟩
 .rw[hI (bp _ (by rw[h.et];simp)),h.root,af,uC,uC];rfl
 .rw[wO]
  refine⟨qb.congr fun x aj=>hI (bq x aj),?_,sx.congr fun x aj=>hI (aT x aj)⟩
  show(a.put e.h 1 v).ws e.h=_
  rw[oo,mO]
  simp
 .simp only[List.mem_append,List.mem_cons]at aj
  rcases aj with aj|rfl|aj
  .exact h.e7 x (by rw[af];simp[aj])
  .exact kK
  .exact h.e7 x (by rw[af];simp[aj])
theorem eQ.cut(h:eQ p a z){pre post:List dP}{e:dP}(af:z.a_=pre++e::post)(o:vp)(tm:o≠ .none)(hx:List dP):
 eQ p (a.put (ml p.R pre).1 (ml p.R pre).2 (di post 0)) {z with a_:=pre++post,hx:=hx,own:=ez z.own e.h o}/\(∀ay,z.own ay≠ .room 0->ay≠p.R->(a.put (ml p.R pre).1 (ml p.R pre).2 (di post 0)).ws ay=a.ws ay)/\(a.put (ml p.R pre).1 (ml p.R pre).2 (di post 0)).ws e.h=a.ws e.h:=by
 have hJ:e∈z.a_:=by rw[af];simp
 have kK:=h.e7 e hJ
 have aa:=h.jF
 rw[af,wO]at aa
 obtain⟨qb,mO,sx⟩:=aa
 have gO:=h.de
 rw[af]at gO
 obtain⟨bq,aT⟩:=D9 gO
 have DE:((pre++post).map (·.h)).Nodup:=by
  rw[List.map_append,List.map_cons,List.nodup_append,List.nodup_cons]at gO
  rw[List.map_append,List.nodup_append]
  exact⟨gO.1,gO.2.1.2,fun x aj y ai=>gO.2.2 x aj y (by simp[ai])⟩
 have rI:∀x,x∈pre++post->x∈z.a_/\x.h≠e.h:=fun x aj=>by
  rw[af]
  rcases List.mem_append.1 aj with aj|aj
  .exact⟨by simp[aj],bq x aj⟩
  .exact⟨by simp[aj],aT x aj⟩
 have Dp:=h.Hi hJ
 have Ec:∀x∈pre++post,ez z.own e.h o x.h= .room 0:=fun x aj=>by
  obtain⟨c6,cO⟩:=rI x aj
  rw[dT _ _ cO];exact h.e7 x c6
 have T8:∀w∈a.queue,ez z.own e.h o w.h= .queue:=fun w hw=>by
  have:w.h≠e.h:=fun aD=>by have:=h.ia w hw;rw[aD,kK]at this;simp at this
  rw[dT _ _ this];exact h.ia w hw
 have Ee:∀ay,ez z.own e.h o ay≠ .none->0<ay/\ay<=a.m.made:=fun ay U=>by
  by_cases aD:ay=e.h
  .rw[aD];exact h.of e.h (by rw[kK];simp)
  .rw[dT _ _ aD]at U;exact h.of ay U
 have TE:ez z.own e.h o p.R= .root:=by rw[dT _ _ (fun aD=>Dp aD.symm)];exact h.et
 cases dC:pre.getLast? with
 |none=>
  have:pre=[]:=List.getLast?_eq_none_iff.1 dC
  subst this
  have a3:ml p.R []=(p.R,2):=rfl
  rw[a3]
  have dR:∀ay,ay≠p.R->(a.put p.R 2 (di post 0)).ws ay=a.ws ay:=fun ay U=>hI U
  refine⟨⟨h.az.put _ _ _,h.an,?_,?_,DE,TE,Ec,T8,Ee⟩,fun ay _ U=>dR ay U,dR _ Dp⟩
  .rw[oo,h.root];simp
  .exact sx.congr fun x aj=>dR _ (h.Hi (rI x (by simp[aj])).1)
 |some cZ=>
  obtain⟨l,rfl⟩:=List.getLast?_eq_some_iff.1 dC
  have a3:ml p.R (l++[cZ])=(cZ.h,2):=DS _ _ _
  rw[a3]
  have azH:cZ∈z.a_:=by rw[af];simp
  have aAC:=h.e7 cZ azH
  have dR:∀ay,ay≠cZ.h->(a.put cZ.h 2 (di post 0)).ws ay=a.ws ay:=fun ay U=>hI U
  have bp:∀ay,z.own ay≠ .room 0->ay≠cZ.h:=fun ay J aD=>J (by rw[aD];exact aAC)
  have g2:z.a_=l++cZ::(e::post):=by rw[af];simp
  have R5:=h.de
  rw[g2]at R5
  obtain⟨iA,pC⟩:=D9 R5
  rw[wO]at qb
  refine⟨⟨h.az.put _ _ _,h.an,?_,?_,DE,TE,Ec,T8,Ee⟩,fun ay U _=>dR ay (bp ay U),dR _ (pC e aM)⟩
  .rw[dR _ (bp _ (by rw[h.et];simp)),h.root,g2]
   show some [_,_,di (l++cZ::(e::post)) 0,_]=some [_,_,di (l++[cZ]++post) 0,_]
   rw[List.append_assoc,uC,uC];rfl
  .show rr _ (l++[cZ]++post) 0
   rw[wO,wO]
   refine⟨⟨?_,?_,trivial⟩,sx.congr fun x aj=>dR _ (pC x (by simp[aj]))⟩
   .exact qb.1.congr fun x aj=>dR _ (iA x aj)
   .rw[oo,qb.2.1];simp[di]
theorem eQ.front(h:eQ p a z){jP key val:Int}{j:Nat}(au:z.own jP= .lay j)(hw:a.ws jP=some [key,val,di z.a_ 0])(hx:List dP):
 eQ p (a.put p.R 2 jP) {z with a_:=⟨jP,key,val⟩::z.a_,hx:=hx,own:=ez z.own jP (.room 0)}/\(∀ay,ay≠p.R->(a.put p.R 2 jP).ws ay=a.ws ay):=by
 have ze:jP≠p.R:=fun aD=>by rw[aD,h.et]at au;simp at au
 have xG:∀x,x∈z.a_->x.h≠jP:=fun x aj aD=>by have:=h.e7 x aj;rw[aD,au]at this;simp at this
 have RY:∀w∈a.queue,w.h≠jP:=fun w hw aD=>by have:=h.ia w hw;rw[aD,au]at this;simp at this
 have dR:∀ay,ay≠p.R->(a.put p.R 2 jP).ws ay=a.ws ay:=fun ay U=>hI U
 refine⟨⟨h.az.put _ _ _,h.an,?_,?_,?_,?_,fun x aj=>?_,fun w hw=>?_,fun ay U=>?_⟩,dR⟩
 .rw[oo,h.root];simp[di]
 .exact⟨by rw[dR _ ze];exact hw,h.jF.congr fun x aj=>dR _ (h.Hi aj)⟩
 .simp only[List.map_cons,List.nodup_cons,List.mem_map]
  exact⟨fun⟨x,aj,aD⟩=>xG x aj aD,h.de⟩
 .simp only[dT _ _ (fun aD=>ze (Eq.symm aD))];exact h.et
 .rcases List.mem_cons.1 aj with rfl|aj
  .simp only[h']
  .simp only[dT _ _ (xG x aj)];exact h.e7 x aj
 .simp only[dT _ _ (RY w hw)];exact h.ia w hw
 .by_cases aD:ay=jP
  .exact h.of ay (by rw[aD,au];simp)
  .simp only[dT _ _ aD]at U;exact h.of ay U
theorem eQ.defer(h:eQ p a z){e:Int}{j:Nat}(au:z.own e= .lay j){l:List Int}(hw:a.ws e=some l):
 (a.m.has e/\(∀w∈a.queue,w.h≠e))/\∀b bC fl c_,eQ p ((a.push e b bC fl).cX c_) {z with own:=ez z.own e .queue}/\(∀ay,z.own ay≠ .queue->ay≠e->((a.push e b bC fl).cX c_).ws ay=a.ws ay):=by
 have zg:∀w∈a.queue,w.h≠e:=fun w hw aD=>by have:=h.ia w hw;rw[aD,au]at this;simp at this
 have xP:∀ay,z.own ay≠ .queue->∀w∈a.queue,w.h≠ay:=fun ay au w hw aD=>au (by rw[<-aD];exact h.ia w hw)
 have tr:=h.of e (by rw[au];simp)
 refine⟨⟨Ke hw,zg⟩,fun b bC fl c_=>?_⟩
 have dR:∀ay,z.own ay≠ .queue->ay≠e->((a.push e b bC fl).cX c_).ws ay=a.ws ay:=fun ay U aq=>NP h.az b bC fl c_ (xP ay U) aq
 have bp:∀ay,z.own ay≠ .lay j->ay≠e:=fun ay J aD=>J (by rw[aD];exact au)
 obtain⟨_,hm,_⟩:=tz (a.push e b bC fl).queue (a.push e b bC fl).m
 refine⟨⟨h.az.push zg tr b bC fl c_,?_,?_,?_,h.de,?_,fun x aj=>?_,fun w hw=>?_,fun ay U=>?_⟩,dR⟩
 .show((a.push e b bC fl).m.cX _).made<1000000
  rw[hm];exact h.an
 .rw[dR _ (by rw[h.et];simp) (bp _ (by rw[h.et];simp))];exact h.root
 .exact h.jF.congr fun x aj=>dR _ (by rw[h.e7 x aj];simp) (bp _ (by rw[h.e7 x aj];simp))
 .simp only[dT _ _ (bp _ (by rw[h.et];simp))];exact h.et
 .simp only[dT _ _ (bp _ (by rw[h.e7 x aj];simp))];exact h.e7 x aj
 .rcases adg b bC fl c_ w hw with aD|⟨w',hb,aD⟩
  .simp only[aD,h']
  .rw[<-aD]
   simp only[dT _ _ (zg w' hb)]
   exact h.ia w' hb
 .show 0<ay/\ay<=((a.push e b bC fl).m.cX _).made
  rw[hm]
  by_cases aD:ay=e
  .rw[aD];exact tr
  .simp only[dT _ _ aD]at U;exact h.of ay U
theorem eQ.oj(h:eQ p a z)(hm:a.m.made<30000):a.queue.length<40000:=by
 have:=h.az.oj (m:=30000) I;omega
theorem eQ.enter(h:eQ p a z){x:Int}(aj:x∉a.inside):eQ p (a.enter x) z:=⟨h.az.enter aj,h.an,h.root,h.jF,h.de,h.et,h.e7,h.ia,h.of⟩
theorem eQ.leave(h:eQ p a z)(x:Int)(bC:V):eQ p ((a.out x).cX bC) z/\∀ay,z.own ay≠ .queue->((a.out x).cX bC).ws ay=a.ws ay:=by
 have xP:∀ay,z.own ay≠ .queue->∀w∈a.queue,w.h≠ay:=fun ay au w hw aD=>au (by rw[<-aD];exact h.ia w hw)
 have dR:∀ay,z.own ay≠ .queue->((a.out x).cX bC).ws ay=a.ws ay:=fun ay au=>asV bC (xP ay au)
 obtain⟨_,hm,_⟩:=tz (a.out x).queue (a.out x).m
 refine⟨⟨h.az.out x bC,?_,by rw[dR _ (by rw[h.et];simp)];exact h.root,h.jF.congr fun y ai=>dR _ (by rw[h.e7 y ai];simp),h.de,h.et,h.e7,fun w hw=>?_,fun ay au=>?_⟩,dR⟩
 .show((a.out x).m.cX _).made<1000000
  rw[hm];exact h.an
 .obtain⟨w',hb,aD⟩:=adf bC w hw
  rw[<-aD];exact h.ia w' hb
 .show 0<ay/\ay<=((a.out x).m.cX _).made
  rw[hm];exact h.of ay au
end
end
