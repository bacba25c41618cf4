/- Part of the proof of BatchOnce, for every input. -/
import Derived.Test.YtobokeclhlbnmaaGreatB8
set_option linter.all false
namespace Go.Proofs.Run
open Go Go.Abs
attribute [local irreducible] b9 cI cr cg aR
set_option maxRecDepth 100000
set_option maxHeartbeats 4000000
section
variable{g:G}{n:Nat}{a:aE}{K:cj aE}{p:ff}{e:jw}{fl:List Nat}{r:Nat}{u:c3}{nx:gl}{f:bu}
theorem Sz:∀(l:List Int),zx (words l)=some l
 |[]=>rfl
 |x::r=>by simp only[words,List.map_cons,zx];have:=Sz r;simp only[words]at this;rw[this];rfl
theorem aHv{l l':List V}(h:l'.length=l.length):nQ l 0 l'=l':=by
 rw[EV _ _ _ I]
 simp[h]
def q'(l:List Int):List Int:=l.mergeSort (· <= ·)
theorem No(l:List Int):(q' l).length=l.length:=List.length_mergeSort _
section
variable{α:Type}{A:h3 α}{b:α}{yt:cj α}
theorem aHR{kv:V}{ks:List Int}{kf:List Nat}(ad:ks.length<100000)(h:iG g kv (words ks) kf)
 (ah:∀g',iG g' kv (words (q' ks)) kf->(∀x,x∉kf->g' x=g x)->yt (.bN []) g' n b):aR A bA 180 [kv,.fn (.func 181) [] []] g n b yt:=by
 rcases h with⟨rfl,g3,rfl⟩|⟨c,rfl,U,rfl,aK⟩
 .unfold aR
  intro σ aa
  have az':ks=[]:=by cases ks with|nil=>rfl|cons x l=>simp[words]at g3
  subst az'
  refine F5 (v:=.bN []) (σ':=σ) ?_ ⟨g,n,b,Nat.le_refl n,aa,ah g (.inl ⟨rfl,by simp[q',words],rfl⟩) fun _ _=>rfl⟩
  simp only[yc,E0,if_true,if_neg (show¬(180=330)by decide)]
 .unfold aR
  intro σ aa
  have o6:j_ σ c false (words ks):=(aa.at_ c _ aK).2
  have aA:σ.l2 c 0 (words ks).length=some (words ks):=by
   have:=o6.load (o:=0) (n:=(words ks).length) I
   simpa using this
  have oc:(words (q' ks)).length=(words ks).length:=by rw[iS,iS,No]
  have fs:om g c 0 (words (q' ks))=some (a1 g c (.al false (words (q' ks)))):=by
   simp only[om,aK]
   rw[if_pos ⟨I,NO _⟩,aHv oc]
  obtain⟨σ',bx,cp⟩:=aa.store fs
  refine F5 (v:=.bN []) (σ':=σ') ?_ ⟨_,n,b,Nat.le_refl n,cp,ah _ (.inr ⟨c,by rw[oc],I,rfl,by rw[bJ,if_pos rfl]⟩) fun x aj=>?_⟩
  .simp only[yc,E0,if_true,if_neg (show¬(180=330)by decide),if_pos (show(words ks).length<100000 by rw[iS];exact ad),aA,Sz]
   have:(ks.mergeSort (· <= ·)).map (V.int .u64)=words (q' ks):=rfl
   rw[this,bx];rfl
  .rw[bJ,if_neg (fun e=>aj (by simp[e]))]
end
def m0(p:ff)(an ar:Nat)(g:G)(fl:List Nat)(r hv:Nat)(u:c3)(nx:gl)(ks:List Int):Prop:=
 ∃cT f kv kf,dH p an ar (.b_ hv) g cT r u nx f/\g hv=some (.al false [.ptr r 0,kv])/\iG g kv (words ks) kf/\hv∉cT/\hv∉kf/\(∀b∈kf,b∉cT)/\p.aP≠hv/\p.aP∉kf/\fl=hv::(kf++cT)
def mx(p:ff)(g:G)(n:Nat)(fl:List Nat)(r hv:Nat)(K:cj aE)(u:c3)(nx:gl)(ks:List Int)(a:aE):Prop:=
 ∀g' n' fl',n<=n'->m0 p a.an a.ar g' fl' r hv u nx ks->(∀b∈fl',b<n')->(∀b∈fl',b∈fl\/n<=b)->(∀b,b<n->b∉fl->g' b=g b)->K (.bN []) g' n' a
theorem mx.lift{hv:Nat}{ks:List Int}{cT kf:List Nat}{kv:V}(ap:bm g n)(bf:∀b∈hv::(kf++cT),b<n)(J:g hv=some (.al false [.ptr r 0,kv]))(U:iG g kv (words ks) kf)(aq:hv∉cT)(aK:hv∉kf)(bx:∀b∈kf,b∉cT)(cp:p.aP≠hv)(fI:p.aP∉kf)
 (h:mx p g n (hv::(kf++cT)) r hv K u nx ks a):s4 p (.b_ hv) g n cT r K u nx a:=by
 intro g' n' fl' cn az bG lU cE aw
 have kM:=ap _ _ J
 have uG:∀b∈kf,b<n:=fun b ad=>bf b (by simp[ad])
 refine h g' n' (hv::(kf++fl')) az ⟨fl',cn,kv,kf,bG,by rw[aw hv kM aq];exact J,U.b6 fun b ad=>aw b (uG b ad) (bx b ad),fun hm=>?_,aK,fun b ad hm=>?_,cp,fI,rfl⟩ (fun b ad=>?_) (fun b ad=>?_) fun b ad bI=>aw b ad fun hm=>bI (by simp[hm])
 .rcases cE hv hm with h|h
  .exact aq h
  .omega
 .rcases cE b hm with h|h
  .exact bx b ad h
  .have:=uG b ad;omega
 .simp only[List.mem_cons,List.mem_append]at ad
  rcases ad with rfl|ad|ad
  .omega
  .have:=uG b ad;omega
  .exact lU b ad
 .simp only[List.mem_cons,List.mem_append]at ad |-
  rcases ad with rfl|ad|ad
  .exact .inl (.inl rfl)
  .exact .inl (.inr (.inl ad))
  .rcases cE b ad with h|h
   .exact .inl (.inr (.inr h))
   .exact .inr h
end
section
variable{g:G}{n:Nat}{a:aE}{K:cj aE}{p:ff}{e:jw}{fl:List Nat}{r:Nat}{u:c3}{nx:gl}{f:bu}
theorem aDi{hv:Nat}{ks:List Int}{hn g7:V}{cT kf:List Nat}{kv:V}(ad:ks.length<100000)(h:dH p a.an a.ar (.b_ hv) g cT r u nx f)(ap:bm g n)(bf:∀b∈hv::(kf++cT),b<n)(J:g hv=some (.al false [.ptr r 0,kv]))(U:iG g kv (words ks) kf)(aq:hv∉cT)(aK:hv∉kf)(bx:∀b∈kf,b∉cT)(cp:p.aP≠hv)(fI:p.aP∉kf)(af:ud g cT r (.b_ hv) hn g7)
 (bg:mx p g n (hv::(kf++cT)) r hv K {u with bH:=true,aO:=none,cJ:=true} .none (q' ks) a):eG g7 [] g n a (fun _ g n a=>K (.bN []) g n a):=by
 obtain⟨cP,iz,zq,vH⟩:=af
 subst zq
 refine⟨_,_,_,rfl,?_⟩
 have kM:=ap _ _ J
 have iB:=ap _ _ vH.1
 have uG:∀b∈kf,b<n:=fun b ad=>bf b (by simp[ad])
 have uE:∀b∈cT,b<n:=fun b ad=>bf b (by simp[ad])
 obtain⟨v1,v2,fm,v4,_,_⟩:=U.g6
 have aK6:r<n:=ap _ _ h.ak
 have Dv:r∉kf:=fun hm=>bx r hm h.dk
 have aAa:cP∉kf:=fun hm=>bx cP hm vH.2.1
 refine bE i179 fun N aF=>?_
 refine aL IH (d' vH.1 J v1 v2 fm v4) ?_
 refine aHR (ks:=ks) ad U fun bY qb c5=>?_
 intro dE
 have aD:bY cP=some (.al false [.ptr hv 0]):=by rw[c5 cP aAa];exact vH.1
 have aJ:bY hv=some (.al false [.ptr r 0,kv]):=by rw[c5 hv aK];exact J
 have o7:dH p a.an a.ar (.b_ hv) bY cT r u .none f:=⟨h.a0,by rw[c5 r Dv];exact h.ak,h.dk,by rw[c5 _ fI];exact h.aj,h.df,h.eM,trivial⟩
 refine aL IH (aN aD aJ) ?_
 refine DU o7 dE uE ⟨rfl,rfl⟩ ⟨rfl,rfl⟩ ⟨rfl,rfl⟩ ⟨rfl,rfl⟩ (rb':=none) aM fun ba aT f2 cB Gx _ cQ=>?_
 intro dC
 have iL:cP≠r:=vH.2.2
 have xy:hv≠r:=fun e=>aq (e▸h.dk)
 have bP:ba cP=some (.al false [.ptr hv 0]):=by rw[cQ cP iB iL];exact aD
 have g0:ba hv=some (.al false [.ptr r 0,kv]):=by rw[cQ hv kM xy];exact aJ
 have iX:=Gx.ak
 obtain⟨a0,ak,dk,aj,df,eM,_⟩:=Gx
 have aKk:(r=cP)=False:=eq_false iL.symm
 refine aL IH (cc bP g0 iX @ej) ?_
 apply aF
 refine a6 i179.eq_1 ?_
 intro _
 have du:∀b,b≠r->(a1 ba r (bt.al false {f2 with done:=.bool true}.l)) b=ba b:=fun b jf=>by
  have c4:(r=b)=False:=eq_false fun e=>jf e.symm
  exact bc c4
 refine .all (bg _ aT (hv::(kf++cT)) cB ⟨cT,{f2 with done:=.bool true},kv,kf,⟨⟨a0.x,a0.hX,a0.g5,a0.h_,a0.val,a0.bH,rfl,a0.stays,a0.bk,a0.bo,a0.eo,a0.ep,a0.a7,a0.made,a0.j8⟩,dX,dk,by rw[du _ df];exact aj,df,eM,trivial⟩,by rw[du _ xy];exact g0,qb.b6 fun b ad=>?_,aq,aK,bx,cp,fI,rfl⟩ (fun b ad=>by have:=bf b ad;omega) (fun b ad=>.inl ad) fun b ad bI=>?_)
 .have jf:b≠r:=fun e=>Dv (e▸ad)
  rw[du _ jf,cQ b (uG b ad) jf]
 .simp only[List.mem_cons,List.mem_append,not_or]at bI
  have jf:b≠r:=fun e=>bI.2.2 (e▸h.dk)
  rw[du _ jf,cQ b ad jf,c5 b bI.2.1]
theorem aDh{hv:Nat}{ks:List Int}(h:m0 p a.an a.ar g fl r hv u .draw ks)(ap:bm g n)(bf:∀b∈fl,b<n){w:Int}(hw:a.at_ p.R 0 w)
 (bg:mx p g n fl r hv K u (.wait w) ks (a.put p.R 0 (fy w 18446744073709551615 1))):∃f:bu,g r=some (.al false f.l)/\f.done= .bool u.cJ/\eG f.next [] g n a K:=by
 obtain⟨cT,f,kv,kf,bG,J,U,aq,aK,bx,cp,fI,rfl⟩:=h
 exact⟨f,bG.ak,bG.a0.done,SP bG ap (fun b ad=>bf b (by simp[ad])) hw (mx.lift ap bf J U aq aK bx cp fI bg)⟩
theorem aDo{hv:Nat}{ks:List Int}{bK:Int}(h:m0 p a.an a.ar g fl r hv u (.wait bK) ks)(ap:bm g n)(bf:∀b∈fl,b<n){w:Int}(hw:a.at_ p.R 1 w)
 (rN:w≠bK->mx p g n fl r hv K u (.wait bK) ks a.tick) (j3:w=bK->mx p g n fl r hv K {u with bk:=p.R,bo:=2} (.ld p.R 2 (.lf (.b_ hv))) ks a.tick):∃f:bu,g r=some (.al false f.l)/\f.done= .bool u.cJ/\eG f.next [] g n a K:=by
 obtain⟨cT,f,kv,kf,bG,J,U,aq,aK,bx,cp,fI,rfl⟩:=h
 exact⟨f,bG.ak,bG.a0.done,Tb bG ap (fun b ad=>bf b (by simp[ad])) hw (fun he=>by cases he) (fun ga he=>by cases he;exact⟨aq,kv,J⟩) (fun af=>mx.lift ap bf J U aq aK bx cp fI (rN af)) (fun af=>mx.lift ap bf J U aq aK bx cp fI (j3 af))⟩
theorem aDm{hv:Nat}{ks:List Int}{bd i:Int}(h:m0 p a.an a.ar g fl r hv u (.ld bd i (.lf (.b_ hv))) ks)(ap:bm g n)(bf:∀b∈fl,b<n){w:Int}(hw:a.at_ bd i w)
 (ad:w=0->ks.length<100000) (rN:w=0->mx p g n fl r hv K {u with a7:=0,bH:=true,aO:=none,cJ:=true} .none (q' ks) a.tick) (j3:w≠0->mx p g n fl r hv K {u with a7:=IntKind.wrap .i64 w} (.ld (IntKind.wrap .i64 w) 0 (.pJ (.b_ hv))) ks a.tick):∃f:bu,g r=some (.al false f.l)/\f.done= .bool u.cJ/\eG f.next [] g n a K:=by
 obtain⟨cT,f,kv,kf,bG,J,U,aq,aK,bx,cp,fI,rfl⟩:=h
 have uE:∀b∈cT,b<n:=fun b ad=>bf b (by simp[ad])
 have Dv:r∉kf:=fun hm=>bx r hm bG.dk
 have xy:hv≠r:=fun e=>aq (e▸bG.dk)
 refine⟨f,bG.ak,bG.a0.done,LD bG ap hw fun ca bq g4 af=>?_⟩
 have o7:dH p a.tick.an a.tick.ar (.b_ hv) g cT r u .none f:=bG.any
 have iu:∀{bj:c3} {hi:gl} {k8:List Int} {a':aE},mx p g n (hv::(kf++cT)) r hv K bj hi k8 a'->mx p g bq (hv::(kf++cT)) r hv K bj hi k8 a':=fun h g' n' fl' az ak cL h8 aw=>h g' n' fl' I ak cL (fun b ad=>by rcases h8 b ad with h|h;exact .inl h;exact .inr I) fun b ad bI=>aw b I bI
 have A1:∀b∈hv::(kf++cT),b<bq:=fun b ad=>by have:=bf b ad;omega
 refine SM (K:=fun _ g n a=>K (.bN []) g n a) o7 (ap.mono g4) (fun b ad=>by have:=uE b ad;omega) af (fun bB hn g7 ba aT f2 cB Gx vN cQ dC=>?_) (fun bB=>((mx.lift (K:=K) (ap.mono g4) A1 J U aq aK bx cp fI (iu (j3 bB))).ir bG.dk))
 have aD:ba hv=some (.al false [.ptr r 0,kv]):=by rw[cQ hv xy];exact J
 have s2:iG ba kv (words ks) kf:=U.b6 fun b ad=>cQ b fun e=>Dv (e▸ad)
 refine aDi (ad bB) Gx dC (fun b ad=>by have:=A1 b ad;omega) aD s2 aq aK bx cp fI vN ?_
 intro g' n' fl' az ak cL h8 aw
 refine iu (rN bB) g' n' fl' I ak cL (fun b ad=>by rcases h8 b ad with h|h;exact .inl h;exact .inr I) fun b ad bI=>?_
 rw[aw b I bI,cQ b fun e=>bI (by simp[e,bG.dk])]
end
section
variable{g:G}{n:Nat}{a:aE}{K:cj aE}{p:ff}{e:jw}{fl:List Nat}{r:Nat}{u:c3}{nx:gl}{f:bu}
theorem mx.trans{hv:Nat}{ks:List Int}{bY:G}{bq:Nat}{gI:List Nat}(h:mx p g n fl r hv K u nx ks a)(az:n<=bq)(cE:∀b∈gI,b∈fl\/n<=b)(aw:∀b,b<n->b∉fl->bY b=g b):mx p bY bq gI r hv K u nx ks a:=by
 intro g' n' fl' oF ak lU oD p7
 refine h g' n' fl' I ak lU (fun b ad=>?_) fun b ad bI=>?_
 .rcases oD b ad with J|J
  .exact cE b J
  .exact .inr I
 .rw[p7 b I (fun J=>?_),aw b ad bI]
  rcases cE b J with U|U
  .exact bI U
  .omega
theorem aCL{hv cP:Nat}{ks:List Int}{kv:V}{kf:List Nat}{w:Int}(qd:g cP=some (.al false [.ptr hv 0]))(J:g hv=some (.al false [.ptr r 0,kv]))(U:iG g kv (words ks) kf)(Bm:cP≠hv)(aK:hv∉kf)(aBs:cP∉kf)(ap:bm g n)(g3:ks.length<100000)
 (ah:∀g' n' og Br,n<=n'->g' hv=some (.al false [.ptr r 0,og])->iG g' og (words (ks++[w])) Br->(∀b∈Br,n<=b/\b<n')->(∀b,b<n->b≠hv->b∉kf->g' b=g b)->K (.bool false) g' n' a):aR ct bA 178 [.int .u64 w,.ptr cP 0] g n a K:=by
 have kM:=ap _ _ J
 have l3:=ap _ _ qd
 refine bE i178 fun pO je=>?_
 rcases U with⟨rfl,hU,rfl⟩|⟨c,rfl,ku,rfl,tg⟩
 .have RM:ks=[]:=by cases ks with|nil=>rfl|cons x l=>simp[words]at hU
  refine fG OD (gq qd J fY.eq_1 (ma Bm) (mb Bm) (ag (I:cP<n)) (ag (I:hv<n))) ?_
  apply je
  refine a6 i178.eq_1 ?_
  intro _
  refine .all (ah _ _ (.slice (n+11) 0 1 1 1) [n+11] I (dX) (.inr ⟨n+11,by simp[RM,words],by simp[words],rfl,?_⟩) (fun b ad=>by simp only[List.mem_singleton]at ad;omega) fun b ad Kh qN=>?_)
  .rw[RM]
   exact bc (aN words.eq_1 (ag (I:hv<n)))
  .have c4:(hv=b)=False:=eq_false fun e=>Kh e.symm
   exact bc (aN c4 (ag (I:b<n)))
 .have sE:=ap _ _ tg
  have c1:¬(words ks).length+1<=(words ks).length:=I
  have c2:(words ks).length+1<=1048576:=by rw[iS];omega
  have eu:List.take (words ks).length (words ks)=words ks:=List.take_length
  have gf:c≠hv:=fun e=>aK (by simp[e])
  have Gc:c≠cP:=fun e=>aBs (by simp[e])
  refine fG OD (bs qd J tg fY.eq_1 c1 c2 eu @Nat.le_refl (ma Bm) (mb Bm) (ma gf) (d' (mb gf) (ma Gc) (mb Gc) (ag (I:cP<n)) (ag (I:hv<n)) (ag (I:c<n)))) ?_
  apply je
  refine a6 i178.eq_1 ?_
  intro _
  refine .all (ah _ _ (.slice (n+11) 0 ((words ks).length+1) ((words ks).length+1) 1) [n+11] I (dX) (.inr ⟨n+11,by simp[words],by simp[words],rfl,?_⟩) (fun b ad=>by simp only[List.mem_singleton]at ad;omega) fun b ad Kh qN=>?_)
  .exact bc (cc words.eq_1 @List.map_append.{0,0} (ag (I:hv<n)) (ag (I:c<n)))
  .have c4:(hv=b)=False:=eq_false fun e=>Kh e.symm
   have Dj:(c=b)=False:=eq_false fun e=>qN (by simp[e])
   exact bc (cw c4 Dj (ag (I:b<n)))
theorem aDk{hv:Nat}{ks:List Int}{bd i:Int}(h:m0 p a.an a.ar g fl r hv u (.ld bd i (.pJ (.b_ hv))) ks)(ap:bm g n)(bf:∀b∈fl,b<n)(g3:ks.length<100000){w:Int}(hw:a.at_ bd i w)
 (bg:mx p g n fl r hv K {u with eo:=u.bk,ep:=u.bo,bk:=u.a7,bo:=2} (.ld u.a7 2 (.lf (.b_ hv))) (ks++[w]) a.tick):∃f:bu,g r=some (.al false f.l)/\f.done= .bool u.cJ/\eG f.next [] g n a K:=by
 obtain⟨cT,f,kv,kf,bG,J,U,aq,aK,bx,cp,fI,rfl⟩:=h
 have uE:∀b∈cT,b<n:=fun b ad=>bf b (by simp[ad])
 have uG:∀b∈kf,b<n:=fun b ad=>bf b (by simp[ad])
 have Dv:r∉kf:=fun hm=>bx r hm bG.dk
 have xy:hv≠r:=fun e=>aq (e▸bG.dk)
 have kM:=ap _ _ J
 have aLm:=ap _ _ bG.ak
 have aDt:=ap _ _ bG.aj
 refine⟨f,bG.ak,bG.a0.done,LD bG ap hw fun ca bq g4 af=>?_⟩
 have Dz:=ap.mono g4
 obtain⟨hD,iQ,iR,iD,ga,kp⟩:=af
 subst ga
 refine⟨_,_,_,rfl,?_⟩
 have Dl:=kp
 obtain⟨hn,g7,qL,y2,AR,vG,cP,iz,zq,vH⟩:=kp
 subst iz zq
 have Bm:cP≠hv:=fun e=>aq (e▸vH.2.1)
 refine bE i247 fun N aF=>?_
 refine aL Cl y2.1 ?_
 refine aCL (r:=r) (ks:=ks) vH.1 J U Bm aK (fun hm=>bx cP hm vH.2.1) Dz g3 fun bY aT og Br cB aD s1 A5 c5=>?_
 intro dE
 have vT:∀b∈cT,bY b=g b:=fun b ad=>c5 b (by have:=uE b ad;omega) (fun e=>aq (e▸ad)) (fun hm=>bx b hm ad)
 have o7:dH p a.tick.an a.tick.ar (.b_ hv) bY cT r u .none f:=⟨bG.a0,by rw[vT r bG.dk];exact bG.ak,bG.dk,by rw[c5 _ (by have:=ap _ _ bG.aj;omega) cp fI];exact bG.aj,bG.df,bG.eM,trivial⟩
 have Dm:qx bY cT r (.b_ hv) hD iQ iR iD:=Dl.mono (fun x aj=>aj) fun x aj _=>vT x aj
 have Rb:∀{x:Nat} {l:List V},dI g cT r x l->dI bY cT r x l:=fun h=>h.mono (fun x aj=>aj) fun x aj _=>vT x aj
 replace qL:=Rb qL
 replace vG:=Rb vG
 obtain⟨a0,ak,dk,aj,df,eM,_⟩:=o7
 have jl:=dE _ _ qL.1
 have He:=dE _ _ vG.1
 have cV:=dE _ _ ak
 have nd:V.same 40 (.agg [.int .i64 u.bk,.int .i64 u.bo]) (.agg [.int .i64 u.bk,.int .i64 u.bo])=true:=nP rfl
 have du:∀b,b≠r->(a1 (a1 bY r (bt.al false {f with bk:=.int .i64 u.bk,bo:=.int .i64 u.bo,eo:=.int .i64 u.bk,ep:=.int .i64 u.bo,a7:=.int .i64 u.a7}.l)) r (bt.al false {f with bk:=.int .i64 u.a7,bo:=.int .i64 2,eo:=.int .i64 u.bk,ep:=.int .i64 u.bo,a7:=.int .i64 u.a7}.l)) b=bY b:=fun b jf=>by
  have c4:(r=b)=False:=eq_false fun e=>jf e.symm
  exact bc c4
 have bG:dH p a.tick.an a.tick.ar (.b_ hv) (a1 (a1 bY r (bt.al false {f with bk:=.int .i64 u.bk,bo:=.int .i64 u.bo,eo:=.int .i64 u.bk,ep:=.int .i64 u.bo,a7:=.int .i64 u.a7}.l)) r (bt.al false {f with bk:=.int .i64 u.a7,bo:=.int .i64 2,eo:=.int .i64 u.bk,ep:=.int .i64 u.bo,a7:=.int .i64 u.a7}.l)) cT r {u with eo:=u.bk,ep:=u.bo,bk:=u.a7,bo:=2} .none {f with bk:=.int .i64 u.a7,bo:=.int .i64 2,eo:=.int .i64 u.bk,ep:=.int .i64 u.bo,a7:=.int .i64 u.a7}:=⟨⟨a0.x,a0.hX,a0.g5,a0.h_,a0.val,a0.bH,a0.done,a0.stays,rfl,rfl,rfl,rfl,rfl,a0.made,a0.j8⟩,dX,dk,by rw[du _ df];exact aj,df,eM,trivial⟩
 have azi:qx (a1 (a1 bY r (bt.al false {f with bk:=.int .i64 u.bk,bo:=.int .i64 u.bo,eo:=.int .i64 u.bk,ep:=.int .i64 u.bo,a7:=.int .i64 u.a7}.l)) r (bt.al false {f with bk:=.int .i64 u.a7,bo:=.int .i64 2,eo:=.int .i64 u.bk,ep:=.int .i64 u.bo,a7:=.int .i64 u.a7}.l)) cT r (.b_ hv) hD iQ iR iD:=Dm.mono (fun x aj=>aj) fun x aj iL=>du x iL
 refine aL (aN HF.eq_1 Cl) (bs ak a0.a7 a0.bk a0.bo nd @bu.t15 @ej (eC qL) (ag (I:hD<aT)) (eC vG) (ag (I:iD<aT)) (ag (I:r<aT))) ?_
 have mM:∀b∈hv::(Br++cT),b<aT+17:=fun b ad=>by
  simp only[List.mem_cons,List.mem_append]at ad
  rcases ad with rfl|ad|ad
  .omega
  .have:=(A5 b ad).2;omega
  .have:=uE b ad;omega
 have t1:mx p (a1 (a1 bY r (bt.al false {f with bk:=.int .i64 u.bk,bo:=.int .i64 u.bo,eo:=.int .i64 u.bk,ep:=.int .i64 u.bo,a7:=.int .i64 u.a7}.l)) r (bt.al false {f with bk:=.int .i64 u.a7,bo:=.int .i64 2,eo:=.int .i64 u.bk,ep:=.int .i64 u.bo,a7:=.int .i64 u.a7}.l)) (aT+17) (hv::(Br++cT)) r hv K {u with eo:=u.bk,ep:=u.bo,bk:=u.a7,bo:=2} (.ld u.a7 2 (.lf (.b_ hv))) (ks++[w]) a.tick:=bg.trans I (fun b ad=>by
  simp only[List.mem_cons,List.mem_append]at ad |-
  rcases ad with rfl|ad|ad
  .exact .inl (.inl rfl)
  .exact .inr (by have:=(A5 b ad).1;omega)
  .exact .inl (.inr (.inr ad))) fun b ad bI=>by
   simp only[List.mem_cons,List.mem_append,not_or]at bI
   rw[du b fun e=>bI.2.2 (e▸dk),c5 b I bI.1 bI.2.1]
 refine dO fun cf=>aR.mono (LK (K:=(fun _ g n a=>K (.bN []) g n a)) bG cf (fun b ad=>by have:=uE b ad;omega) azi ((mx.lift (K:=K) (ks:=ks++[w]) (kv:=og) (kf:=Br) cf mM (by rw[du _ xy];exact aD) (s1.b6 fun b ad=>du b fun e=>?_) aq (fun hm=>?_) (fun b ad hm=>?_) cp (fun hm=>?_) t1).ir dk)) fun v ba cq b7 iJ ah aA=>?_
 .have:=(A5 b ad).1;omega
 .have:=(A5 hv hm).1;omega
 .have:=(A5 b ad).1;have:=uE b hm;omega
 .have:=(A5 _ hm).1;omega
 apply aF
 refine a6 i247.eq_1 ?_
 exact fun _=>.all ah
end
section
variable{g:G}{n:Nat}{a:aE}{K:cj aE}{p:ff}{e:jw}{fl:List Nat}{r:Nat}{u:c3}{nx:gl}{f:bu}
theorem Bx{id:FuncId}{first cap:List V}(aV:g r=some (.al false f.l))(aH:f.done= .bool false)(az:f.next= .fn (.func id) first cap)
 (af:aR ct bA id (first++[]++cap) (a1 g r (.al false {f with effect:=.bool false}.l)) n a (fun _ g' n' a'=>∃(cn:bu) (e d:Bool),g' r=some (.al false cn.l)/\cn.effect= .bool e/\cn.done= .bool d/\∀aT,n'<=aT->K (.bN [.bool e,.bool d]) g' aT a')):aR ct bA 107 [.ptr r 0] g n a K:=by
 simp only[az,aH,List.append_nil]at af
 refine bE i107 fun N aF=>?_
 refine aL Oj (cc aV aH az @ej) ?_
 refine aR.mono af fun v g' n' a' hle ah cf=>?_
 obtain⟨cn,e,d,y7,he,jZ,ah⟩:=ah
 refine aL Oj (cc y7 he jZ @ej) ?_
 apply aF
 refine a6 i107.eq_1 ?_
 exact fun _=>.all (ah _ I)
theorem aC7{k:Int}(aB:g p.aP=some (fK p a.an a.ar))(ap:bm g n)
 (ah:∀g' n' r hv fl',n<=n'->m0 p a.an a.ar g' fl' r hv ⟨0,0,0,false,0,0,0,0,0,0,false,false,none⟩ .draw []->(∀b∈fl',n<=b/\b<n')->(∀b,b<n->g' b=g b)->K (.ptr hv 0) g' n' a):
 aR ct bA 106 [.ptr p.aP 0,.int .i64 k] g n a K:=by
 have da:=ap _ _ aB
 have eV:=aB
 simp only[fK]at eV
 refine bE i106 fun N aF=>?_
 refine aL Oi (cw eV @ej (ag (I:p.aP<n))) ?_
 refine dO fun cf=>aR.mono (SU (e:=.b_ (n+1)) (fl:=[n,n+2]) (K:=(fun v ba aT b7=>ba (n+2)=some (.al false [.ptr (n+1) 0])/\K (.ptr (n+1) 0) ba aT b7)) (u:=⟨0,0,0,false,0,0,0,0,0,0,false,false,none⟩) (f:=⟨.ptr p.aP 0,.int .i64 0,.int .u64 0,.br,.int .i64 0,.int .i64 0,.int .u64 0,.int .i64 0,.br,.int .u64 0,.int .i64 0,.fZ,.bool false,.bool false,.bool false,.int .i64 0,.int .i64 0,.int .i64 0,.int .i64 0,.int .i64 0,.int .i64 0,.int .u64 0,.bool false⟩) (nx:=.none) ⟨?_,?_,aM,?_,I,by simp;omega,trivial⟩ cf (fun b ad=>by simp only[List.mem_cons,List.not_mem_nil,or_false]at ad;omega) ⟨n+2,rfl,?_,aM,I⟩ fun ba aT s' f2 cB bG bf cE aw=>⟨?_,ah ba aT n (n+1) ((n+1)::([]++s')) I ⟨s',f2,.br,[],bG,?_,.inl ⟨rfl,rfl,rfl⟩,fun hm=>?_,aM,aM,I,aM,rfl⟩ (fun b ad=>?_) fun b ad=>?_⟩) fun v ba aT b7 cB eJ aA=>?_
 .exact⟨rfl,rfl,rfl,rfl,rfl,rfl,rfl,rfl,rfl,rfl,rfl,rfl,rfl,rfl,fun b h=>by cases h⟩
 .exact bc bu.l.eq_1
 .exact bc (cw eV fK.eq_1 (ag (I:p.aP<n)))
 .exact dX
 .rw[aw (n+2) I I];exact dX
 .rw[aw (n+1) I I];exact dX
 .rcases cE _ hm with h|h
  .simp only[List.mem_cons,List.not_mem_nil,or_false]at h;omega
  .omega
 .simp only[List.mem_cons,List.mem_append,List.not_mem_nil,false_or]at ad
  rcases ad with rfl|ad
  .omega
  .refine⟨?_,bf b ad⟩
   rcases cE b ad with h|h
   .simp only[List.mem_cons,List.not_mem_nil,or_false]at h;omega
   .omega
 .rw[aw b I I]
  exact bc (ag (I:b<n))
 .refine aL Oi eJ.1 ?_
  apply aF
  refine a6 i106.eq_1 ?_
  exact fun _=>.all eJ.2
theorem aCT{hv:Nat}{ks:List Int}(h:m0 p a.an a.ar g fl r hv u nx ks)(aA:ks.length<100000)
 (ah:∀g' n' og fl',n<=n'->iG g' og (words ks) fl'->(∀b∈fl',n<=b)->(∀b,b<n->g' b=g b)->K og g' n' a):aR ct bA 108 [.ptr hv 0] g n a K:=by
 obtain⟨cT,f,kv,kf,bG,J,U,aq,aK,bx,cp,fI,rfl⟩:=h
 have rP:=U.g6
 refine bE i108 fun N aF=>?_
 refine aL Ok (cw J rP.2.2.2.1 rP.2.1) ?_
 refine xg U (by rw[iS];exact aA) (NO _) fun g' n' og fl' az zl cE aw=>?_
 intro cf
 refine dl (aN adl.eq_1 Ok) ?_
 apply aF
 refine a6 i108.eq_1 ?_
 exact fun _=>.all (ah _ _ _ _ I zl (fun b ad=>by have:=cE b ad;omega) fun b ad=>aw b I)
theorem aCV{hv:Nat}{ks:List Int}(h:m0 p a.an a.ar g fl r hv u nx ks)(ap:bm g n)
 (ah:∀g' n' k fl' cn,n<=n'->dH p a.an a.ar .a1 g' fl' k ⟨0,0,0,false,0,0,0,0,0,0,false,false,none⟩ .drop cn->(∀b∈fl',n<=b/\b<n')->(∀b,b<n->g' b=g b)->K (.ptr k 0) g' n' a):aR ct bA 114 [.ptr hv 0] g n a K:=by
 obtain⟨cT,f,kv,kf,bG,J,U,aq,aK,bx,cp,fI,rfl⟩:=h
 have da:=ap _ _ bG.aj
 have cV:=ap _ _ bG.ak
 have kM:=ap _ _ J
 have eV:=bG.aj
 have jg:=bG.a0.x
 have lZ:=bG.ak
 simp only[fK]at eV
 refine bE i114 fun N aF=>?_
 refine aL auj (gq J lZ jg @ej (ag (I:p.aP<n)) (ag (I:r<n)) (ag (I:hv<n))) ?_
 refine dO fun cf=>aR.mono (Bs (e:=.a1) (fl:=[n]) (K:=(fun v ba aT b7=>K (.ptr n 0) ba aT b7)) (u:=⟨0,0,0,false,0,0,0,0,0,0,false,false,none⟩) (f:=⟨.ptr p.aP 0,.int .i64 0,.int .u64 0,.br,.int .i64 0,.int .i64 0,.int .u64 0,.int .i64 0,.br,.int .u64 0,.int .i64 0,.fZ,.bool false,.bool false,.bool false,.int .i64 0,.int .i64 0,.int .i64 0,.int .i64 0,.int .i64 0,.int .i64 0,.int .u64 0,.bool false⟩) (nx:=.none) ⟨?_,?_,aM,?_,I,by simp;omega,trivial⟩ cf (fun b ad=>by simp only[List.mem_singleton]at ad;omega) (fun h=>by cases h) fun _=>fun ba aT s' f2 cB bG bf cE aw=>ah ba aT n s' f2 I bG (fun b ad=>⟨?_,bf b ad⟩) fun b ad=>?_) fun v ba aT b7 cB eJ aA=>?_
 .exact⟨rfl,rfl,rfl,rfl,rfl,rfl,rfl,rfl,rfl,rfl,rfl,rfl,rfl,rfl,fun b h=>by cases h⟩
 .exact bc bu.l.eq_1
 .exact bc (cw eV fK.eq_1 (ag (I:p.aP<n)))
 .rcases cE b ad with h|h
  .simp only[List.mem_singleton]at h;omega
  .omega
 .rw[aw b I I]
  exact bc (ag (I:b<n))
 .apply aF
  refine a6 i114.eq_1 ?_
  exact fun _=>.all eJ
theorem aDc{hv:Nat}{ks:List Int}{i:Nat}(h:m0 p a.an a.ar g fl r hv u nx ks)(ap:bm g n)(bf:∀b∈fl,b<n)(aA:ks.length<100000){w:Int}(aC:ks[i]? =some w)
 (ah:∀g' n' k fl' cn,n<=n'->dH p a.an a.ar .a1 g' fl' k ⟨w,0,5,true,p.R,2,0,0,0,0,false,false,none⟩ (.ld p.R 2 (.lf .a1)) cn->(∀b∈fl',n<=b/\b<n')->(∀b,b<n->g' b=g b)->K (.ptr k 0) g' n' a):aR ct bA 112 [.ptr hv 0,.int .i64 i] g n a K:=by
 obtain⟨cT,f,kv,kf,bG,J,U,aq,aK,bx,cp,fI,rfl⟩:=h
 have Gp:i<ks.length:=by
  rcases Nat.lt_or_ge i ks.length with h|h
  .exact h
  .rw[List.getElem?_eq_none h]at aC;simp at aC
 have da:=ap _ _ bG.aj
 have cV:=ap _ _ bG.ak
 have kM:=ap _ _ J
 have eV:=bG.aj
 have jg:=bG.a0.x
 have lZ:=bG.ak
 simp only[fK]at eV
 rcases U with⟨rfl,hU,rfl⟩|⟨c,rfl,ku,rfl,tg⟩
 .have:ks=[]:=by cases ks with|nil=>rfl|cons x l=>simp[words]at hU
  subst this;simp at Gp
 have sE:=ap _ _ tg
 have c1:(0:Int)<=(i:Int):=I
 have c2:(i:Int)< ((words ks).length:Int):=by rw[iS];omega
 have eu:=Ic aC
 refine bE i112 fun N aF=>?_
 refine dl Om ?_
 refine bE i183 fun pO je=>?_
 refine aL aut (bs J lZ jg tg c1 c2 eu @Int.toNat_natCast @ej (ag (I:p.aP<n)) (ag (I:r<n)) (aN (ag (I:hv<n)) (ag (I:c<n)))) ?_
 refine dO fun cf=>aR.mono (Bt (e:=.a1) (fl:=[n+17]) (K:=(fun v ba aT b7=>K (.ptr (n+17) 0) ba aT b7)) (u:=⟨w,0,5,true,0,0,0,0,0,0,false,false,none⟩) (f:=⟨.ptr p.aP 0,.int .i64 5,.int .u64 w,.br,.int .i64 0,.int .i64 0,.int .u64 0,.int .i64 0,.br,.int .u64 0,.int .i64 0,.fZ,.bool false,.bool false,.bool true,.int .i64 0,.int .i64 0,.int .i64 0,.int .i64 0,.int .i64 0,.int .i64 0,.int .u64 0,.bool false⟩) (nx:=.none) rfl (.inr rfl) ⟨?_,?_,aM,?_,I,by simp;omega,trivial⟩ cf (fun b ad=>by simp only[List.mem_singleton]at ad;omega) fun ba aT s' f2 cB bG bf cE aw=>ah ba aT (n+17) s' f2 I bG (fun b ad=>⟨?_,bf b ad⟩) fun b ad=>?_) fun v ba aT b7 cB eJ aA=>?_
 .exact⟨rfl,rfl,rfl,rfl,rfl,rfl,rfl,rfl,rfl,rfl,rfl,rfl,rfl,rfl,fun b h=>by cases h⟩
 .exact bc bu.l.eq_1
 .exact bc (cw eV fK.eq_1 (ag (I:p.aP<n)))
 .rcases cE b ad with h|h
  .simp only[List.mem_singleton]at h;omega
  .omega
 .rw[aw b I I]
  exact bc (ag (I:b<n))
 .apply je
  refine a6 i183.eq_1 ?_
  intro _
  refine .all ?_
  intro jN
  refine dl (aN adn.eq_1 Om) ?_
  apply aF
  refine a6 i112.eq_1 ?_
  exact fun _=>.all eJ
theorem bu.t7(f:bu):List.take 4 (List.drop 7 f.l)=[f.hl,f.gJ,f.fV,f.fW]:=rfl
theorem aC6{k aO:Nat}{w:Int}(aV:g k=some (.al false f.l))(a5:f.hl= .int .i64 0)(J:f.gJ= .slice aO 0 1 1 1)(U:f.fV= .int .u64 0)(aq:f.fW= .int .i64 0)(ad:g aO=some (.al false [.int .u64 w]))
 (ah:∀g' n' b',n<=b'->g' b'=some (.al false [.int .u64 w])->(∀b,b<n->g' b=g b)->K (.agg [.int .i64 0,.slice b' 0 1 1 1,.int .u64 0,.int .i64 0]) g' n' a):aR ct bA 392 [.ptr k 0] g n a K:=by
 refine dO fun ap=>?_
 have cd:=ap _ _ aV
 have cV:=ap _ _ ad
 refine bE i392 fun N aF=>?_
 refine aL O' (ji aV @bu.t7 a5 J U aq ad @ej (ag (I:k<n)) (ag (I:aO<n))) ?_
 refine xg (ks:=[.int .u64 w]) (fl:=[aO]) (.inr ⟨aO,rfl,aM,rfl,?_⟩) aM rfl fun g' n' og fl' az zl cE aw=>?_
 .exact bc (aN ad (ag (I:aO<n)))
 intro cf
 rcases zl with⟨_,bd,_⟩|⟨b',rfl,_,rfl,eN⟩
 .simp at bd
 have xU:n+2<=b':=cE b' aM
 have vg:g' n=some (.al false [.int .i64 0,.br,.int .u64 0,.int .i64 0]):=by rw[aw n I];exact dX
 have rl:g' (n+1)=some (.al false [.int .i64 0,.slice aO 0 1 1 1,.int .u64 0,.int .i64 0]):=by rw[aw (n+1) I];exact dX
 refine aL (aN ad_.eq_1 O') (cw vg rl @List.length_singleton.{0}) ?_
 have aCM:=cf _ _ eN
 apply aF
 refine a6 i392.eq_1 ?_
 intro _
 refine .all (ah _ _ b' I ?_ fun b ad=>?_)
 .exact bc (cw eN (ag (I:n<b')) (ag (I:n+1<b')))
 .exact bc (aN (aw b I) (ag (I:b<n)))
end
section
abbrev iw:Int:=18446744073709551615
def lY(p:ew)(a:aE)(u:gD)(Q:aE->gD->Prop):Prop:=
 match u.aY with
 | .draw=>∃w,a.at_ p.R (bW u.room) w/\Q (a.put p.R (bW u.room) (fy w iw 1)) {u with aY:=.wait w}
 | .wait bK=>(0<=u.room/\u.room<1000)/\∃w,a.at_ p.R (bW u.room+1) w/\(w≠bK->Q a.tick u)/\(w=bK->Q a.tick {u with aY:=.go})
 | .go=>(0<=u.room/\u.room<1000)/\∃w,a.at_ p.R (bW u.room+2) w/\(IntKind.wrap .i64 w=0->Q a.tick {u with bk:=p.R,bo:=bW u.room+2,a7:=0,aY:=.space})/\(IntKind.wrap .i64 w≠0->Q a.tick {u with bk:=p.R,bo:=bW u.room+2,a7:=IntKind.wrap .i64 w,aY:=.ask})
 | .load=>∃w,a.at_ u.bk u.bo w/\(IntKind.wrap .i64 w=0->Q a.tick {u with a7:=0,aY:=.space})/\(IntKind.wrap .i64 w≠0->Q a.tick {u with a7:=IntKind.wrap .i64 w,aY:=.ask})
 | .ask=>∃w,a.at_ u.a7 1 w/\(u.key<w->Q a.tick {u with rk:=w,aY:=.space})/\(w=u.key->Q a.tick {u with rk:=w,aY:=.set})/\(w<u.key->Q a.tick {u with rk:=w,bk:=u.a7,bo:=0,aY:=.load})
 | .set=>dZ u.val/\∃w,a.at_ u.a7 2 w/\Q (a.put u.a7 2 u.val) {u with bH:=true,aY:=.leave}
 | .leave=>(0<=u.room/\u.room<1000)/\∃w,a.at_ p.R (bW u.room+1) w/\Q (a.put p.R (bW u.room+1) (fy w iw 1)) {u with aY:=.done}
 | .space=>(0<=p.E/\p.E<1000)/\0<=u.made/\(0<u.made->a.m.has u.made/\∀x∈a.queue,x.h≠u.made)/\∃w,a.at_ p.R 0 w/\
  (gy w 4294967295<p.E->u.made=0->Q a.tick {u with fu:=gy w 4294967295,aY:=.make})/\
  (gy w 4294967295<p.E->u.made≠0->Q a.tick {u with fu:=gy w 4294967295,aY:=.add})/\
  (¬gy w 4294967295<p.E->w.fdiv (2 ^ 32)≠0->Q a.tick {u with fu:=gy w 4294967295})/\
  (¬gy w 4294967295<p.E->w.fdiv (2 ^ 32)=0->u.made=0->Q a.tick {u with fu:=gy w 4294967295,bH:=true,aY:=.leave})/\
  (¬gy w 4294967295<p.E->w.fdiv (2 ^ 32)=0->0<u.made->Q (a.tick.free u.made) {u with fu:=gy w 4294967295,bH:=true,aY:=.leave})
 | .make=>(0<=a.m.made/\a.m.made<1000000000)/\(a.m.room<3->Q a {u with bH:=true,aY:=.leave})/\(3<=a.m.room->∀b,Q (a.make 3 b) {u with made:=a.m.made+1,aY:=.fill 3})
 | .fill j=>(j=1\/j=2\/j=3)/\dZ u.key/\dZ u.val/\∃w,a.at_ u.made (j-1:Nat) w/\
  (j=1->Q (a.put u.made 0 (IntKind.wrap .u64 u.a7)) {u with aY:=.jY})/\(j=2->Q (a.put u.made 1 u.key) {u with aY:=.fill 1})/\(j=3->Q (a.put u.made 2 u.val) {u with aY:=.fill 2})
 | .jY=>∃w,a.at_ p.R 1 w/\Q (a.put p.R 1 (fy w iw 1)) {u with aY:=.add}
 | .add=>(0<=u.fu/\u.fu<100000)/\∃w,a.at_ p.R 0 w/\(gy w 4294967295≠u.fu->Q (a.put p.R 0 (o1 w 4294967295 u.fu (u.fu+1))) {u with aY:=.space})/\(gy w 4294967295=u.fu->Q (a.put p.R 0 (o1 w 4294967295 u.fu (u.fu+1))) {u with bH:=true,aY:=.link})
 | .link=>∃w,a.at_ u.bk u.bo w/\Q (a.put u.bk u.bo (IntKind.wrap .u64 u.made)) {u with aY:=.leave}
 | .done=>False
def qY(p:ew)(a:aE)(v:jd)(Q:aE->jd->Prop):Prop:=
 match v.aY with
 | .draw=>∃w,a.at_ p.R (bW v.room) w/\Q (a.put p.R (bW v.room) (fy w iw 1)) {v with aY:=.wait w}
 | .wait bK=>(0<=v.room/\v.room<1000)/\∃w,a.at_ p.R (bW v.room+1) w/\(w≠bK->Q a.tick v)/\(w=bK->Q a.tick {v with aY:=.go})
 | .go=>(0<=v.room/\v.room<1000)/\∃w,a.at_ p.R (bW v.room+2) w/\(w=0->Q a.tick {v with bk:=p.R,bo:=bW v.room+2,bH:=true,aY:=.done})/\(w≠0->Q a.tick {v with bk:=p.R,bo:=bW v.room+2,a7:=w,aY:=.ask})
 | .load=>∃w,a.at_ v.bk v.bo w/\(w=0->Q a.tick {v with bH:=true,aY:=.done})/\(w≠0->Q a.tick {v with a7:=w,aY:=.ask})
 | .ask=>v.keys.length<100000/\∃w,a.at_ (IntKind.wrap .i64 v.a7) 1 w/\Q a.tick {v with keys:=v.keys++[w],gH:=v.gH++[IntKind.wrap .i64 v.a7],bk:=IntKind.wrap .i64 v.a7,bo:=0,aY:=.load}
 | .done=>False
def px(p:ew)(a:aE)(u:lj)(Q:aE->lj->Prop):Prop:=
 match u.aY with
 | .start i=>i<u.b_.keys.length/\u.b_.keys.length<100000/\∃w,a.at_ p.R 0 w/\Q (a.put p.R 0 (fy w iw 4294967296)) {u with b_:={u.b_ with gH:=u.b_.gH.set i 0},aY:=.jY}
 | .jY=>∃w,a.at_ p.R 1 w/\Q (a.put p.R 1 (fy w iw 1)) {u with aY:=.val}
 | .val=>∃w,a.at_ u.a7 2 w/\Q a.tick {u with val:=w,bH:=true,aY:=.dec}
 | .dec=>∃w,a.at_ p.R 0 w/\Q (a.put p.R 0 (fy w iw 18446744069414584319)) {u with aY:=.jo}
 | .jo=>∃w,a.at_ u.a7 0 w/\Q a.tick {u with aY:=.j9 w}
 | .j9 h1=>dZ h1/\(∃w,a.at_ u.bk u.bo w)/\(a.put u.bk u.bo h1).m.has u.a7/\(∀x∈a.queue,x.h≠u.a7)/\a.queue.length<40000/\∀b bC fl c_,Q (((a.put u.bk u.bo h1).push u.a7 b bC fl).cX c_) {u with aY:=.done}
 | .done=>False
variable{g:G}{n:Nat}{a:aE}{K:cj aE}{p:ew}{fl:List Nat}
theorem ay1{r:Nat}{u:gD}{f:bF}{L:List (Nat×bt)}{Q:aE->gD->Prop}(h:kW p a.an a.ar g fl r u f L)(ap:bm g n)(av:lY p a u Q)(ah:∀a' bj,Q a' bj->jc p g n fl r K bj a'):eG f.next [] g n a K:=by
 unfold lY at av
 split at av
 .obtain⟨w,hw,av⟩:=av;exact aIx ‹_› h ap hw (ah _ _ av)
 .obtain⟨ak,w,hw,J,U⟩:=av;exact aIG ‹_› h ap ak hw (fun e=>ah _ _ (J e)) (fun e=>ah _ _ (U e))
 .obtain⟨ak,w,hw,J,U⟩:=av;exact aIz ‹_› h ap ak hw (fun e=>ah _ _ (J e)) (fun e=>ah _ _ (U e))
 .obtain⟨w,hw,J,U⟩:=av;exact asG ‹_› h ap hw (fun e=>ah _ _ (J e)) (fun e=>ah _ _ (U e))
 .obtain⟨w,hw,J,U,aq⟩:=av;exact aIv ‹_› h ap hw (fun e=>ah _ _ (J e)) (fun e=>ah _ _ (U e)) (fun e=>ah _ _ (aq e))
 .obtain⟨hv,w,hw,J⟩:=av;exact aIE ‹_› h ap hw hv (ah _ _ J)
 .obtain⟨ak,w,hw,J⟩:=av;exact aIA ‹_› h ap ak hw (ah _ _ J)
 .obtain⟨mJ,hm,aV,w,hw,J,U,aq,aK,bx⟩:=av
  exact aIF ‹_› h ap hw mJ hm aV (fun aD aJ=>ah _ _ (J aD aJ)) (fun aD aJ=>ah _ _ (U aD aJ)) (fun aD aJ=>ah _ _ (aq aD aJ)) (fun aD aJ bP=>ah _ _ (aK aD aJ bP)) (fun aD aJ bP=>ah _ _ (bx aD aJ bP))
 .obtain⟨hm,J,U⟩:=av;exact aIC ‹_› h ap hm (fun e=>ah _ _ (J e)) (fun e b=>ah _ _ (U e b))
 .obtain⟨ax,kr,Bj,w,hw,J,U,aq⟩:=av;exact aIy ‹_› h ap ax hw kr Bj (fun e=>ah _ _ (J e)) (fun e=>ah _ _ (U e)) (fun e=>ah _ _ (aq e))
 .obtain⟨w,hw,J⟩:=av;exact aIw ‹_› h ap hw (ah _ _ J)
 .obtain⟨dR,w,hw,J,U⟩:=av;exact aIu ‹_› h ap hw dR (fun e=>ah _ _ (J e)) (fun e=>ah _ _ (U e))
 .obtain⟨w,hw,J⟩:=av;exact aIB ‹_› h ap hw (ah _ _ J)
 .exact av.elim
theorem aBh{r hv:Nat}{v:jd}{f:bF}{L:List (Nat×bt)}{Q:aE->jd->Prop}(h:nA p a.an a.ar g fl r hv v f L)(ap:bm g n)(av:qY p a v Q)(ah:∀a' v',Q a' v'->pS p g n fl r hv K v' a'):eG f.next [] g n a K:=by
 unfold qY at av
 split at av
 .obtain⟨w,hw,av⟩:=av;exact aIR ‹_› h ap hw (ah _ _ av)
 .obtain⟨ak,w,hw,J,U⟩:=av;exact aIT ‹_› h ap ak hw (fun e=>ah _ _ (J e)) (fun e=>ah _ _ (U e))
 .obtain⟨ak,w,hw,J,U⟩:=av;exact aIS ‹_› h ap ak hw (fun e=>ah _ _ (J e)) (fun e=>ah _ _ (U e))
 .obtain⟨w,hw,J,U⟩:=av;exact asK ‹_› h ap hw (fun e=>ah _ _ (J e)) (fun e=>ah _ _ (U e))
 .obtain⟨aA,w,hw,J⟩:=av;exact aIP ‹_› h ap hw aA (ah _ _ J)
 .exact av.elim
theorem az1{r hv k:Nat}{u:lj}{f0 f:bF}{L:List (Nat×bt)}{Q:aE->lj->Prop}(h:ou p a.an a.ar g fl r hv k u f0 f L)(ap:bm g n)(av:px p a u Q)(ah:∀a' bj,Q a' bj->w3 p g n fl r hv k K bj a'):eG f.next [] g n a K:=by
 unfold px at av
 split at av
 .obtain⟨aC,aA,w,hw,av⟩:=av;exact aBM ‹_› h ap aC aA hw (ah _ _ av)
 .obtain⟨w,hw,av⟩:=av;exact aBK ‹_› h ap hw (ah _ _ av)
 .obtain⟨w,hw,av⟩:=av;exact aBP ‹_› h ap hw (ah _ _ av)
 .obtain⟨w,hw,av⟩:=av;exact aBL ‹_› h ap hw (ah _ _ av)
 .obtain⟨w,hw,av⟩:=av;exact aBN ‹_› h ap hw (ah _ _ av)
 .obtain⟨rO,⟨w,hw⟩,bd,aAM,sw,av⟩:=av;exact aBO ‹_› h ap rO hw bd aAM sw (fun b bC fl c_=>ah _ _ (av b bC fl c_))
 .exact av.elim
end
