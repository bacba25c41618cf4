/- Part of the proof of BatchOnce, for every input. -/
import Derived.Test.YtobokeclhlbnmaaGreatB7
set_option linter.all false
namespace Go.Proofs.Run
open Go Go.Abs
attribute [local irreducible] b9 cI cr cg aR
set_option maxRecDepth 100000
set_option maxHeartbeats 4000000
section
variable{g:G}{n:Nat}{a:aE}{K:cj aE}{p:ff}{e:jw}{fl:List Nat}{r:Nat}{u:c3}{nx:gl}{f:bu}
theorem aCk{k:li}{bd:Int}(h:dH p a.an a.ar e g fl r u nx f)(ap:bm g n)(bf:∀b∈fl,b<n){ca:V}(af:iv g fl r (.mw bd k) ca)(bg:eR p e g n fl r K u (.bX p.R 2 (IntKind.wrap .u64 bd) k) a):eG ca [] g n a K:=by
 have a5:=h
 obtain⟨a0,ak,dk,aj,df,eM,_⟩:=h
 have cV:=ap _ _ ak
 have da:=ap _ _ aj
 obtain⟨b0,dd,d0,tT,hv,dY,hA,y1,af⟩:=af
 subst hv
 refine⟨_,_,_,rfl,?_⟩
 have l3:=ap _ _ dY.1
 have iA:=ap _ _ hA.1
 have pC:=ap _ _ y1.1
 refine bE i350 fun N aF=>?_
 refine aL O6 (jO ak @ej (eC dY) (ag (I:b0<n)) (eC hA) (ag (I:dd<n)) (eC y1) (ag (I:d0<n)) (ag (I:r<n))) ?_
 refine dO fun cf=>G9 (e:=e) (u:=u) (fl:=fl) (f:=f) (nx:=.none) a5.any cf fun n' az=>?_
 intro dE
 obtain⟨v1,v2,fm,v4⟩:=af.val
 refine aL (aN ad5.eq_1 O6) (bs ak v1 v2 fm v4 @ej (eC dY) (ag (I:b0<n)) (eC hA) (ag (I:dd<n)) (eC y1) (aN (ag (I:d0<n)) (ag (I:r<n)))) ?_
 refine dO fun cf=>aR.mono (zI (K:=fun _ g n a=>K (.bN []) g n a) (k:=k) (nx:=.none) (f:=f) (u:=u) (fl:=fl) a5.any cf (fun b ad=>by have:=bf b ad;omega) af (bg.trans I (fun b ad=>.inl ad) fun b ad bI=>rfl)) fun v ba aT b7 cB ah aA=>?_
 apply aF
 refine a6 i350.eq_1 ?_
 exact fun _=>.all ah
theorem aCe{k:li}(h:dH p a.an a.ar e g fl r u nx f)(ap:bm g n)(bf:∀b∈fl,b<n){ca:V}(af:iv g fl r (.sD k) ca)(pw:∀ca g' n' cn,n<=n'->dH p a.an a.ar e g' fl r {u with bH:=true,aO:=none} .none cn->iv g' fl r k ca->(∀b,b<n->b≠r->g' b=g b)->bm g' n'->eG ca [] g' n' a (fun _ g n a=>K (.bN []) g n a)):eG ca [] g n a K:=by
 have a5:=h
 obtain⟨a0,ak,dk,aj,df,eM,_⟩:=h
 have cV:=ap _ _ ak
 have da:=ap _ _ aj
 obtain⟨b0,dd,tT,hv,dY,hA,af⟩:=af
 subst hv
 refine⟨_,_,_,rfl,?_⟩
 have l3:=ap _ _ dY.1
 have iA:=ap _ _ hA.1
 refine bE i338 fun N aF=>?_
 refine aL O4 (d' ak @ej (eC dY) (ag (I:b0<n)) (eC hA) (ag (I:dd<n))) ?_
 refine dO fun cf=>DU a5 cf bf ⟨rfl,rfl⟩ ⟨rfl,rfl⟩ ⟨rfl,rfl⟩ ⟨rfl,rfl⟩ (rb':=none) aM fun bY bq f1 g4 tb _ c5=>?_
 intro dE
 have eE:bY dd=some (.al false [tT]):=by rw[c5 dd iA hA.2.2];exact hA.1
 obtain⟨id,first,cap,nJ,gW⟩:=pw tT bY bq f1 g4 tb (af.mono (fun x aj=>aj) fun x aj iL=>c5 x (bf x aj) iL) c5 dE
 subst nJ
 rw[List.append_nil]at gW
 refine aL O4 eE ?_
 refine aR.mono gW fun v ba aT b7 cB ah aA=>?_
 apply aF
 refine a6 i338.eq_1 ?_
 exact fun _=>.all ah
theorem aCc{last:Int}(h:dH p a.an a.ar e g fl r u nx f)(ap:bm g n)(bf:∀b∈fl,b<n){ca:V}(af:iv g fl r (.oz last) ca)(bd:a.m.has last)(av:∀x∈a.queue,x.h≠last)(sw:a.queue.length<40000)(J:∀b bC fl' c_,u.stays=true->eR p e g n fl r K {u with cJ:=true} .none ((a.push last b bC fl').cX c_))(U:∀b bC fl' c_,u.stays=false->eR p e g n fl r K u .drop ((a.push last b bC fl').cX c_)):eG ca [] g n a K:=by
 have a5:=h
 obtain⟨a0,ak,dk,aj,df,eM,_⟩:=h
 have cV:=ap _ _ ak
 have da:=ap _ _ aj
 obtain⟨b0,dd,hv,dY,hA⟩:=af
 subst hv
 refine⟨_,_,_,rfl,?_⟩
 have l3:=ap _ _ dY.1
 have iA:=ap _ _ hA.1
 refine bE i303 fun N aF=>?_
 have gR:=aj
 have jg:=a0.x
 simp only[fK]at gR
 refine aL OV (ji ak gR jg @ej (eC dY) (ag (I:b0<n)) (eC hA) (ag (I:dd<n)) (ag (I:r<n)) (ag (I:p.aP<n))) ?_
 refine FW bd av sw fun bq v1 b bC fl' c_ g4=>?_
 intro dE
 refine aL OV (ji ak gR jg @ej (eC dY) (ag (I:b0<n)) (eC hA) (ag (I:dd<n)) (ag (I:r<n)) (ag (I:p.aP<n))) ?_
 have Db:dH p ((a.push last b bC fl').cX c_).an ((a.push last b bC fl').cX c_).ar e g fl r u .none f:=a5.any
 refine aR.mono (Bs (K:=fun _ g n a=>K (.bN []) g n a) Db dE (fun b ad=>by have:=bf b ad;omega) (fun aa=>(J b bC fl' c_ aa).trans I (fun b ad=>.inl ad) fun b ad bI=>rfl) (fun aa=>(U b bC fl' c_ aa).trans I (fun b ad=>.inl ad) fun b ad bI=>rfl)) fun v ba aT b7 cB ah aA=>?_
 apply aF
 refine a6 i303.eq_1 ?_
 exact fun _=>.all ah
theorem aCh{aO:Nat}{w:Int}(h:dH p a.an a.ar e g fl r u nx f)(ap:bm g n)(bf:∀b∈fl,b<n){ca:V}(af:iv g fl r (.tR aO w) ca)(bd:a.m.has u.a7)(av:∀x∈a.queue,x.h≠u.a7)(sw:a.queue.length<40000)(bg:∀b bC fl' c_,eR p e g n fl r K u (.more 18446744073709551615) ((a.push u.a7 b bC fl').cX c_)):eG ca [] g n a K:=by
 have a5:=h
 obtain⟨a0,ak,dk,aj,df,eM,_⟩:=h
 have cV:=ap _ _ ak
 have da:=ap _ _ aj
 obtain⟨b0,hv,dY,aKF⟩:=af
 subst hv
 refine⟨_,_,_,rfl,?_⟩
 have l3:=ap _ _ dY.1
 refine bE i296 fun N aF=>?_
 have gR:=aj
 have jg:=a0.x
 simp only[fK]at gR
 refine aL OU (jO ak gR jg a0.a7 @ej (eC dY) (ag (I:b0<n)) (ag (I:r<n)) (ag (I:p.aP<n))) ?_
 refine FW bd av sw fun bq v1 b bC fl' c_ g4=>?_
 intro dE
 refine aL OU (e_ ak gR jg @ej (eC dY) (ag (I:b0<n)) (ag (I:r<n)) (ag (I:p.aP<n))) ?_
 have Db:dH p ((a.push u.a7 b bC fl').cX c_).an ((a.push u.a7 b bC fl').cX c_).ar e g fl r u .none f:=a5.any
 refine aR.mono (S3 (K:=fun _ g n a=>K (.bN []) g n a) Db dE (fun b ad=>by have:=bf b ad;omega) ((bg b bC fl' c_).trans I (fun b ad=>.inl ad) fun b ad bI=>rfl)) fun v ba aT b7 cB ah aA=>?_
 apply aF
 refine a6 i296.eq_1 ?_
 exact fun _=>.all ah
theorem aCr{k:li}(h:dH p a.an a.ar e g fl r u nx f)(ap:bm g n)(bf:∀b∈fl,b<n){ca:V}{w:Int}(af:oW g fl r (.rc k) ca)(bg:eR p e g n fl r K u (.bX u.bk u.bo w k) a):eG ca [.int .u64 w] g n a K:=by
 have a5:=h
 obtain⟨a0,ak,dk,aj,df,eM,_⟩:=h
 have cV:=ap _ _ ak
 have da:=ap _ _ aj
 obtain⟨b0,dd,tT,hv,dY,hA,af⟩:=af
 subst hv
 refine⟨_,_,_,rfl,?_⟩
 have l3:=ap _ _ dY.1
 have iA:=ap _ _ hA.1
 refine bE i334 fun N aF=>?_
 have kH:List.take 2 (List.drop 15 f.l)=[.int .i64 u.bk,.int .i64 u.bo]:=by
  have:List.take 2 (List.drop 15 f.l)=[f.bk,f.bo]:=rfl
  rw[this,a0.bk,a0.bo]
 have nd:V.same 40 (.agg [.int .i64 u.bk,.int .i64 u.bo]) (.agg [.int .i64 u.bk,.int .i64 u.bo])=true:=nP rfl
 obtain⟨v1,v2,fm,v4⟩:=af.val
 refine aL auT (bs ak kH nd v1 v2 fm v4 @ej (eC dY) (ag (I:b0<n)) (eC hA) (aN (ag (I:dd<n)) (ag (I:r<n)))) ?_
 refine dO fun cf=>aR.mono (zI (K:=fun _ g n a=>K (.bN []) g n a) (k:=k) (nx:=.none) (f:=f) (u:=u) (fl:=fl) a5.any cf (fun b ad=>by have:=bf b ad;omega) af (bg.trans I (fun b ad=>.inl ad) fun b ad bI=>rfl)) fun v ba aT b7 cB ah aA=>?_
 apply aF
 refine a6 i334.eq_1 ?_
 exact fun _=>.all ah
theorem aCs{k:li}{bd:Int}(h:dH p a.an a.ar e g fl r u nx f)(ap:bm g n)(bf:∀b∈fl,b<n){ca:V}{w:Int}(af:oW g fl r (.r7 bd k) ca)(bg:eR p e g n fl r K u (.bX bd 2 w (.mw bd k)) a):eG ca [.int .u64 w] g n a K:=by
 have a5:=h
 obtain⟨a0,ak,dk,aj,df,eM,_⟩:=h
 have cV:=ap _ _ ak
 have da:=ap _ _ aj
 obtain⟨b0,dd,d0,tT,hv,dY,hA,y1,af⟩:=af
 subst hv
 refine⟨_,_,_,rfl,?_⟩
 have l3:=ap _ _ dY.1
 have iA:=ap _ _ hA.1
 have pC:=ap _ _ y1.1
 refine bE i349 fun N aF=>?_
 refine aL auW (jO ak @ej (eC dY) (ag (I:b0<n)) (eC hA) (ag (I:dd<n)) (eC y1) (ag (I:d0<n)) (ag (I:r<n))) ?_
 refine dO fun cf=>aR.mono (zI (K:=fun _ g n a=>K (.bN []) g n a) (k:=.mw bd k) a5 cf bf ⟨b0,dd,d0,tT,rfl,dY,hA,y1,af⟩ bg) fun v ba aT b7 cB ah aA=>?_
 apply aF
 refine a6 i349.eq_1 ?_
 exact fun _=>.all ah
end
section
variable{g:G}{n:Nat}{a:aE}{K:cj aE}{p:ff}{e:jw}{fl:List Nat}{r:Nat}{u:c3}{nx:gl}{f:bu}
theorem bu.t15(f:bu):List.take 2 (List.drop 15 f.l)=[f.bk,f.bo]:=rfl
theorem bu.t17(f:bu):List.take 2 (List.drop 17 f.l)=[f.eo,f.ep]:=rfl
theorem aCq(h:dH p a.an a.ar e g fl r u nx f)(ap:bm g n)(bf:∀b∈fl,b<n){ca:V}{w:Int}(af:oW g fl r .bZ ca)(mJ:0<=p.E/\p.E<1000)(na:0<=a.m.made/\a.m.made<1000000000)(aa:u.stays=false)
 (J:a.m.room<3->eR p e g n fl r K {u with bH:=true,aO:=none} .drop a)
 (U:3<=a.m.room->w<p.E->∀b,eR p e g n fl r K {u with made:=a.m.made+1} (.bX (a.m.made+1) 0 u.key (.rR .uT)) (a.make 3 b))
 (aq:3<=a.m.room->¬w<p.E->∀b,eR p e g n fl r K {u with made:=a.m.made+1} (.bX u.eo u.ep 0 (.cut u.bk)) (a.make 3 b)):eG ca [.int .u64 w] g n a K:=by
 have a5:=h
 obtain⟨a0,ak,dk,aj,df,eM,_⟩:=h
 have cV:=ap _ _ ak
 have da:=ap _ _ aj
 obtain⟨b0,hv,dY⟩:=af
 subst hv
 refine⟨_,_,_,rfl,?_⟩
 have l3:=ap _ _ dY.1
 refine bE i299 fun N aF=>?_
 have gR:=aj
 have jg:=a0.x
 simp only[fK]at gR
 have yi:IntKind.wrap .u64 p.E=p.E:=wrap_u64 mJ.1 I
 refine aL FD (e_ ak gR jg @ej (eC dY) (ag (I:b0<n)) (ag (I:r<n)) (ag (I:p.aP<n))) ?_
 refine Hg (k:=3) (by decide) (by decide) na (fun ha n' az=>?_) fun ha n' b az=>?_
 .intro dE
  refine aL (aN HJ.eq_1 FD) (e_ ak gR jg @ej (eC dY) (ag (I:b0<n)) (ag (I:r<n)) (ag (I:p.aP<n))) ?_
  refine dO fun cf=>aR.mono (aC1 (K:=(fun _ g n a=>K (.bN []) g n a)) (nx:=.none) (f:=f) (u:=u) (fl:=fl) a5.any cf (fun b ad=>by have:=bf b ad;omega) (fun af=>by rw[aa]at af;cases af) (fun _=>(J ha).trans I (fun b ad=>.inl ad) fun b ad bI=>rfl)) fun v ba aT b7 cB ah aA=>?_
  apply aF
  refine a6 i299.eq_1 ?_
  exact fun _=>.all ah
 .intro dE
  have nd:V.same 40 (.agg [.int .i64 u.eo,.int .i64 u.ep]) (.agg [.int .i64 u.eo,.int .i64 u.ep])=true:=nP rfl
  by_cases af:w<p.E
  .refine aL (aN HJ.eq_1 FD) (bs ak gR jg @ej af yi a0.bk a0.eo a0.ep @bu.t17 nd (jO (ma df) (mb df) (eC dY) (ag (I:b0<n)) (ag (I:r<n)) (ag (I:p.aP<n)) (ag (I:b0<n')) (ag (I:r<n')) (ag (I:p.aP<n')))) ?_
   have dJ:∀x,x<n->x≠r->(a1 (a1 (a1 g r (bt.al false {f with x:=.ptr p.aP 0,bk:=.int .i64 u.bk,eo:=.int .i64 u.eo,ep:=.int .i64 u.ep,made:=.int .i64 (a.m.made+1)}.l)) n' (bt.al false [V.int .i64 0])) n' (bt.al false [V.int .i64 u.bk])) x=g x:=(fun x aj iL=>by have c4:(r=x)=False:=eq_false fun e=>iL e.symm;exact bc (aN c4 (ag (I:x<n'))))
   have gA:∀{x:Nat} {l:List V},dI g fl r x l->dI (a1 (a1 (a1 g r (bt.al false {f with x:=.ptr p.aP 0,bk:=.int .i64 u.bk,eo:=.int .i64 u.eo,ep:=.int .i64 u.ep,made:=.int .i64 (a.m.made+1)}.l)) n' (bt.al false [V.int .i64 0])) n' (bt.al false [V.int .i64 u.bk])) (ext fl n (n'+1)) r x l:=fun h=>h.mono (fun x aj=>e1.2 (.inl aj)) fun x aj iL=>dJ x (bf x aj) iL
   refine dO fun cf=>aR.mono (S1 (K:=(fun _ g n a=>K (.bN []) g n a)) (nx:=.none) (u:={u with made:=a.m.made+1}) (fl:=ext fl n (n'+1)) (f:={f with x:=.ptr p.aP 0,bk:=.int .i64 u.bk,eo:=.int .i64 u.eo,ep:=.int .i64 u.ep,made:=.int .i64 (a.m.made+1)}) ⟨⟨rfl,a0.hX,a0.g5,a0.h_,a0.val,a0.bH,a0.done,a0.stays,rfl,a0.bo,rfl,rfl,a0.a7,rfl,a0.j8⟩,bc (ag (I:r<n')),e1.2 (.inl dk),bc (d' gR fK.eq_1 aE.make.eq_1 (ma df) (mb df) (ag (I:p.aP<n'))),df,(fun hm=>by rcases e1.1 hm with h|h;exact eM h;omega),trivial⟩ cf (pX bf I) (k:=.uT) ⟨b0,rfl,gA dY⟩ ((U ha af b).trans I (fun b ad=>by rcases e1.1 ad with h|h;exact .inl h;exact .inr h.1) fun b ad bI=>dJ b ad bI)) fun v ba aT b7 cB ah aA=>?_
   apply aF
   refine a6 i299.eq_1 ?_
   exact fun _=>.all ah
  .refine aL (aN HJ.eq_1 FD) (bs ak gR jg @ej af yi a0.bk a0.eo a0.ep @bu.t17 nd (jO (ma df) (mb df) (eC dY) (ag (I:b0<n)) (ag (I:r<n)) (ag (I:p.aP<n)) (ag (I:b0<n')) (ag (I:r<n')) (ag (I:p.aP<n')))) ?_
   have dJ:∀x,x<n->x≠r->(a1 (a1 (a1 g r (bt.al false {f with x:=.ptr p.aP 0,bk:=.int .i64 u.bk,eo:=.int .i64 u.eo,ep:=.int .i64 u.ep,made:=.int .i64 (a.m.made+1)}.l)) n' (bt.al false [V.int .i64 0])) n' (bt.al false [V.int .i64 u.bk])) x=g x:=(fun x aj iL=>by have c4:(r=x)=False:=eq_false fun e=>iL e.symm;exact bc (aN c4 (ag (I:x<n'))))
   have gA:∀{x:Nat} {l:List V},dI g fl r x l->dI (a1 (a1 (a1 g r (bt.al false {f with x:=.ptr p.aP 0,bk:=.int .i64 u.bk,eo:=.int .i64 u.eo,ep:=.int .i64 u.ep,made:=.int .i64 (a.m.made+1)}.l)) n' (bt.al false [V.int .i64 0])) n' (bt.al false [V.int .i64 u.bk])) (ext fl n (n'+8)) r x l:=fun h=>h.mono (fun x aj=>e1.2 (.inl aj)) fun x aj iL=>dJ x (bf x aj) iL
   refine dO fun cf=>aR.mono (zI (K:=(fun _ g n a=>K (.bN []) g n a)) (nx:=.none) (u:={u with made:=a.m.made+1}) (fl:=ext fl n (n'+8)) (f:={f with x:=.ptr p.aP 0,bk:=.int .i64 u.bk,eo:=.int .i64 u.eo,ep:=.int .i64 u.ep,made:=.int .i64 (a.m.made+1)}) ⟨⟨rfl,a0.hX,a0.g5,a0.h_,a0.val,a0.bH,a0.done,a0.stays,rfl,a0.bo,rfl,rfl,a0.a7,rfl,a0.j8⟩,bc (ag (I:r<n')),e1.2 (.inl dk),bc (d' gR fK.eq_1 aE.make.eq_1 (ma df) (mb df) (ag (I:p.aP<n'))),df,(fun hm=>by rcases e1.1 hm with h|h;exact eM h;omega),trivial⟩ cf (pX bf I) (k:=.cut u.bk) ⟨b0,n',rfl,gA dY,⟨bc (ag (I:r<n')),e1.2 (.inr I),I⟩⟩ ((aq ha af b).trans I (fun b ad=>by rcases e1.1 ad with h|h;exact .inl h;exact .inr h.1) fun b ad bI=>dJ b ad bI)) fun v ba aT b7 cB ah aA=>?_
   apply aF
   refine a6 i299.eq_1 ?_
   exact fun _=>.all ah
end
section
variable{g:G}{n:Nat}{a:aE}{K:cj aE}{p:ff}{e:jw}{fl:List Nat}{r:Nat}{u:c3}{nx:gl}{f:bu}
theorem aCp(h:dH p a.an a.ar e g fl r u nx f)(ap:bm g n)(bf:∀b∈fl,b<n){ca:V}{w:Int}(af:oW g fl r .cell ca)(bg:∀aO,eR p e g n fl r K {u with bH:=true,aO:=some aO} (.ld u.a7 2 (.rc (.tR aO w))) a):eG ca [.int .u64 w] g n a K:=by
 have a5:=h
 obtain⟨a0,ak,dk,aj,df,eM,_⟩:=h
 have cV:=ap _ _ ak
 have da:=ap _ _ aj
 obtain⟨b0,hv,dY⟩:=af
 subst hv
 refine⟨_,_,_,rfl,?_⟩
 have l3:=ap _ _ dY.1
 refine bE i294 fun N aF=>?_
 refine aL OT (eW ak @ej (eC dY) (ag (I:b0<n)) (ag (I:r<n))) ?_
 have aw:∀b,b<n->(a1 g n (bt.al false [V.int .u64 w])) b=g b:=fun b ad=>bc (ag (I:b<n))
 refine dO fun cf=>DU (a5.grow (n':=n+1) ap aw) cf (pX bf I) ⟨rfl,rfl⟩ ⟨rfl,rfl⟩ ⟨rfl,rfl⟩ ⟨rfl,rfl⟩ (rb':=some n) (fun b ad=>by simp only[Option.some.injEq]at ad;subst ad;exact⟨rfl,rfl,rfl,rfl⟩) fun bY bq f1 g4 tb _ c5=>?_
 intro dE
 have j1:∀b,b<n->b≠r->bY b=g b:=fun b ad jf=>by rw[c5 b I jf,aw b ad]
 have eE:bY b0=some (.al false [.ptr r 0]):=by rw[j1 b0 l3 dY.2.2];exact dY.1
 have k0:bY n=some (.al false [.int .u64 w]):=by rw[c5 n I I];exact dX
 refine aL OT eE ?_
 refine aR.mono (S9 (K:=(fun _ g n a=>K (.bN []) g n a)) (k:=.tR n w) tb dE (fun b ad=>by have:=pX bf (I:n<=n+1) b ad;omega) ⟨b0,rfl,⟨eE,e1.2 (.inl dY.2.1),dY.2.2⟩,⟨k0,e1.2 (.inr I),I⟩⟩ ((bg n).trans I (fun b ad=>by rcases e1.1 ad with h|h;exact .inl h;exact .inr h.1) fun b ad bI=>j1 b ad bI)) fun v ba aT b7 cB ah aA=>?_
 apply aF
 refine a6 i294.eq_1 ?_
 exact fun _=>.all ah
theorem aCO(h:dH p a.an a.ar e g fl r u nx f)(ap:bm g n)(bf:∀b∈fl,b<n)(J:u.kind=2->eR p e g n fl r K u (.bX u.a7 1 u.val .set) a)(U:u.kind=5->eR p e g n fl r K u (.ld u.a7 1 .cell) a)(eJ:u.kind=2\/u.kind=5):aR ct bA 241 [.ptr r 0] g n a K:=by
 have a5:=h
 obtain⟨a0,ak,dk,aj,df,eM,_⟩:=h
 have cV:=ap _ _ ak
 have da:=ap _ _ aj
 refine bE i241 fun N aF=>?_
 have nd:V.same 40 (.agg [.int .i64 u.a7,.int .i64 1]) (.agg [.int .i64 u.a7,.int .i64 1])=true:=nP rfl
 have aw:∀b,b<n->(a1 (a1 (a1 g n (bt.al false [V.ptr r 0])) (n+1) (bt.al false [V.int .i64 0,V.int .i64 0])) (n+1) (bt.al false [V.int .i64 u.a7,V.int .i64 1])) b=g b:=fun b ad=>bc (ag (I:b<n))
 rcases eJ with eJ|eJ
 .refine aL OM (kw ak a0.hX a0.h_ a0.a7 a0.val eJ nd @ej (ag (I:r<n)) (ag (I:n<n+1)) (ag (I:r<n+1))) ?_
  refine dO fun cf=>aR.mono (zI (K:=fun _ g n a=>K (.bN []) g n a) (k:=.set) (a5.grow ap aw) cf (pX bf I) ⟨n,rfl,dI.new (bc (ag (I:r<n))) I I cV⟩ ((J eJ).grow I aw)) fun v ba aT b7 cB ah aA=>?_
  apply aF
  refine a6 i241.eq_1 ?_
  exact fun _=>.all ah
 .refine aL OM (kw ak a0.hX a0.h_ a0.a7 a0.val eJ nd @ej (ag (I:r<n)) (ag (I:n<n+1)) (ag (I:r<n+1))) ?_
  refine dO fun cf=>aR.mono (Bv (K:=fun _ g n a=>K (.bN []) g n a) (k:=.cell) (a5.grow ap aw) cf (pX bf I) ⟨n,rfl,dI.new (bc (ag (I:r<n))) I I cV⟩ ((U eJ).grow I aw)) fun v ba aT b7 cB ah aA=>?_
  apply aF
  refine a6 i241.eq_1 ?_
  exact fun _=>.all ah
theorem aCJ(h:dH p a.an a.ar e g fl r u nx f)(ap:bm g n)(bf:∀b∈fl,b<n)(eJ:u.kind=2)(J:eR p e g n fl r K u (.ld p.R 3 .bZ) a):aR ct bA 242 [.ptr r 0] g n a K:=by
 have a5:=h
 obtain⟨a0,ak,dk,aj,df,eM,_⟩:=h
 have cV:=ap _ _ ak
 have da:=ap _ _ aj
 have gR:=aj
 have jg:=a0.x
 simp only[fK]at gR
 refine bE i242 fun N aF=>?_
 have aw:∀b,b<n->(a1 g n (bt.al false [V.ptr r 0])) b=g b:=fun b ad=>bc (ag (I:b<n))
 refine aL auC (bs ak gR jg a0.hX a0.h_ eJ @ej (ag (I:r<n)) (ag (I:p.aP<n)) (ag (I:n<n+1)) (ag (I:r<n+1)) (ag (I:p.aP<n+1))) ?_
 refine dO fun cf=>aR.mono (Bv (K:=fun _ g n a=>K (.bN []) g n a) (k:=.bZ) (a5.grow ap aw) cf (pX bf I) ⟨n,rfl,dI.new (bc (ag (I:r<n))) I I cV⟩ (J.grow I aw)) fun v ba aT b7 cB ah aA=>?_
 apply aF
 refine a6 i242.eq_1 ?_
 exact fun _=>.all ah
theorem LK{hD iQ iR iD:Nat}(h:dH p a.an a.ar e g fl r u nx f)(ap:bm g n)(bf:∀b∈fl,b<n)(af:qx g fl r e hD iQ iR iD)(bg:eR p e g n fl r K u (.ld u.bk u.bo (.lf e)) a):aR ct bA 244 [.ptr hD 0,.ptr iR 0,.ptr iQ 0,.ptr iD 0] g n a K:=by
 have a5:=h
 obtain⟨a0,ak,dk,aj,df,eM,_⟩:=h
 have cV:=ap _ _ ak
 have da:=ap _ _ aj
 have kH:List.take 2 (List.drop 15 f.l)=[.int .i64 u.bk,.int .i64 u.bo]:=by
  have:List.take 2 (List.drop 15 f.l)=[f.bk,f.bo]:=rfl
  rw[this,a0.bk,a0.bo]
 have nd:V.same 40 (.agg [.int .i64 u.bk,.int .i64 u.bo]) (.agg [.int .i64 u.bk,.int .i64 u.bo])=true:=nP rfl
 have jK:=af
 obtain⟨hn,g7,qL,y2,AR,vG,vN⟩:=af
 have jl:=ap _ _ qL.1
 refine bE i244 fun N aF=>?_
 refine aL auE (gq ak kH nd @ej (eC qL) (ag (I:hD<n)) (ag (I:r<n))) ?_
 refine dO fun cf=>aR.mono (Bv (K:=fun _ g n a=>K (.bN []) g n a) (k:=.lf e) (nx:=.none) (f:=f) (u:=u) (fl:=fl) a5.any cf (fun b ad=>by have:=bf b ad;omega) ⟨hD,iQ,iR,iD,rfl,jK⟩ (bg.trans I (fun b ad=>.inl ad) fun b ad bI=>rfl)) fun v ba aT b7 cB ah aA=>?_
 apply aF
 refine a6 i244.eq_1 ?_
 exact fun _=>.all ah
end
section
variable{g:G}{n:Nat}{a:aE}{K:cj aE}{p:ff}{e:jw}{fl:List Nat}{r:Nat}{u:c3}{nx:gl}{f:bu}
theorem SM(h:dH p a.an a.ar e g fl r u nx f)(ap:bm g n)(bf:∀b∈fl,b<n){ca:V}{w:Int}(af:oW g fl r (.lf e) ca)
 (J:w=0->∀hn g7 g' n' cn,n<=n'->dH p a.an a.ar e g' fl r {u with a7:=0} .none cn->ud g' fl r e hn g7->(∀b,b≠r->g' b=g b)->bm g' n'->eG g7 [] g' n' a (fun _ g n a=>K (.bN []) g n a))
 (U:w≠0->eR p e g n fl r K {u with a7:=IntKind.wrap .i64 w} (.ld (IntKind.wrap .i64 w) 0 (.pJ e)) a):eG ca [.int .u64 w] g n a K:=by
 have a5:=h
 obtain⟨a0,ak,dk,aj,df,eM,_⟩:=h
 have cV:=ap _ _ ak
 have da:=ap _ _ aj
 obtain⟨hD,iQ,iR,iD,hv,kp⟩:=af
 subst hv
 refine⟨_,_,_,rfl,?_⟩
 have Dl:=kp
 obtain⟨hn,g7,qL,y2,AR,vG,vN⟩:=kp
 have jl:=ap _ _ qL.1
 have Tf:=ap _ _ AR.1
 have du:∀b,b≠r->(a1 g r (bt.al false {f with a7:=.int .i64 (IntKind.wrap .i64 w)}.l)) b=g b:=fun b jf=>by
  have c4:(r=b)=False:=eq_false fun e=>jf e.symm
  exact bc c4
 have bG:dH p a.an a.ar e (a1 g r (bt.al false {f with a7:=.int .i64 (IntKind.wrap .i64 w)}.l)) fl r {u with a7:=IntKind.wrap .i64 w} .none {f with a7:=.int .i64 (IntKind.wrap .i64 w)}:=⟨⟨a0.x,a0.hX,a0.g5,a0.h_,a0.val,a0.bH,a0.done,a0.stays,a0.bk,a0.bo,a0.eo,a0.ep,rfl,a0.made,a0.j8⟩,dX,dk,by rw[du _ df];exact aj,df,eM,trivial⟩
 have gA:∀{x:Nat} {l:List V},dI g fl r x l->dI (a1 g r (bt.al false {f with a7:=.int .i64 (IntKind.wrap .i64 w)}.l)) fl r x l:=fun h=>h.mono (fun x aj=>aj) fun x aj iL=>du x iL
 have Dm:qx (a1 g r (bt.al false {f with a7:=.int .i64 (IntKind.wrap .i64 w)}.l)) fl r e hD iQ iR iD:=Dl.mono (fun x aj=>aj) fun x aj iL=>du x iL
 have Rl:ud (a1 g r (bt.al false {f with a7:=.int .i64 (IntKind.wrap .i64 w)}.l)) fl r e hn g7:=vN.mono (fun x aj=>aj) fun x aj iL=>du x iL
 refine bE i246 fun N aF=>?_
 by_cases hw:w=0
 .subst hw
  have w0:IntKind.wrap .i64 0=0:=rfl
  rw[w0]at bG du Rl
  have Dz:bm (a1 g r (bt.al false {f with a7:=.int .i64 0}.l)) n:=ap.a1 cV _
  obtain⟨id,first,cap,nJ,gW⟩:=J rfl hn g7 _ n _ (Nat.le_refl _) bG Rl du Dz
  subst nJ
  rw[List.append_nil]at gW
  refine aL ON (e_ ak w0 @ej (eC qL) (ag (I:hD<n)) (eC AR) (ag (I:iR<n)) (ag (I:r<n))) ?_
  refine aR.mono gW fun v ba aT b7 cB ah aA=>?_
  apply aF
  refine a6 i246.eq_1 ?_
  exact fun _=>.all ah
 .have uL:(w==0)=false:=by simpa using hw
  refine aL ON (jO ak uL hw @ej (eC qL) (ag (I:hD<n)) (eC AR) (ag (I:iR<n)) (ag (I:r<n))) ?_
  refine dO fun cf=>aR.mono (Bv (K:=(fun _ g n a=>K (.bN []) g n a)) (k:=.pJ e) bG cf (fun b ad=>by have:=bf b ad;omega) ⟨hD,iQ,iR,iD,rfl,Dm⟩ ((U hw).trans I (fun b ad=>.inl ad) fun b ad bI=>du b bI)) fun v ba aT b7 cB ah aA=>?_
  apply aF
  refine a6 i246.eq_1 ?_
  exact fun _=>.all ah
end
section
variable{g:G}{n:Nat}{a:aE}{K:cj aE}{p:ff}{e:jw}{fl:List Nat}{r:Nat}{u:c3}{nx:gl}{f:bu}
theorem aCo(h:dH p a.an a.ar e g fl r u nx f)(ap:bm g n)(bf:∀b∈fl,b<n)(he:e= .a1){ca:V}{w:Int}(af:oW g fl r (.pJ e) ca)(eJ:u.kind=2\/u.kind=5)
 (J:w=u.key->u.kind=2->eR p e g n fl r K u (.bX u.a7 1 u.val .set) a) (tb:w=u.key->u.kind=5->eR p e g n fl r K u (.ld u.a7 1 .cell) a)
 (U:w≠u.key->eR p e g n fl r K {u with eo:=u.bk,ep:=u.bo,bk:=u.a7,bo:=2} (.ld u.a7 2 (.lf e)) a):eG ca [.int .u64 w] g n a K:=by
 have a5:=h
 obtain⟨a0,ak,dk,aj,df,eM,_⟩:=h
 have cV:=ap _ _ ak
 have da:=ap _ _ aj
 obtain⟨hD,iQ,iR,iD,hv,kp⟩:=af
 subst hv
 refine⟨_,_,_,rfl,?_⟩
 have Dl:=kp
 obtain⟨hn,g7,qL,y2,AR,vG,vN⟩:=kp
 rw[he]at vN
 obtain⟨⟨b0,iz,dY⟩,zq⟩:=vN
 subst iz zq
 have jl:=ap _ _ qL.1
 have xW:=ap _ _ y2.1
 have He:=ap _ _ vG.1
 have l3:=ap _ _ dY.1
 have du:∀b,b≠r->(a1 (a1 g r (bt.al false {f with bk:=.int .i64 u.bk,bo:=.int .i64 u.bo,eo:=.int .i64 u.bk,ep:=.int .i64 u.bo,a7:=.int .i64 u.a7}.l)) r (bt.al false {f with bk:=.int .i64 u.a7,bo:=.int .i64 2,eo:=.int .i64 u.bk,ep:=.int .i64 u.bo,a7:=.int .i64 u.a7}.l)) b=g b:=fun b jf=>by
  have c4:(r=b)=False:=eq_false fun e=>jf e.symm
  exact bc c4
 have bG:dH p a.an a.ar e (a1 (a1 g r (bt.al false {f with bk:=.int .i64 u.bk,bo:=.int .i64 u.bo,eo:=.int .i64 u.bk,ep:=.int .i64 u.bo,a7:=.int .i64 u.a7}.l)) r (bt.al false {f with bk:=.int .i64 u.a7,bo:=.int .i64 2,eo:=.int .i64 u.bk,ep:=.int .i64 u.bo,a7:=.int .i64 u.a7}.l)) fl r {u with eo:=u.bk,ep:=u.bo,bk:=u.a7,bo:=2} .none {f with bk:=.int .i64 u.a7,bo:=.int .i64 2,eo:=.int .i64 u.bk,ep:=.int .i64 u.bo,a7:=.int .i64 u.a7}:=⟨⟨a0.x,a0.hX,a0.g5,a0.h_,a0.val,a0.bH,a0.done,a0.stays,rfl,rfl,rfl,rfl,rfl,a0.made,a0.j8⟩,dX,dk,by rw[du _ df];exact aj,df,eM,trivial⟩
 have Dm:qx (a1 (a1 g r (bt.al false {f with bk:=.int .i64 u.bk,bo:=.int .i64 u.bo,eo:=.int .i64 u.bk,ep:=.int .i64 u.bo,a7:=.int .i64 u.a7}.l)) r (bt.al false {f with bk:=.int .i64 u.a7,bo:=.int .i64 2,eo:=.int .i64 u.bk,ep:=.int .i64 u.bo,a7:=.int .i64 u.a7}.l)) fl r e hD iQ iR iD:=Dl.mono (fun x aj=>aj) fun x aj iL=>du x iL
 have gA:∀{x:Nat} {l:List V},dI g fl r x l->(a1 (a1 g r (bt.al false {f with bk:=.int .i64 u.bk,bo:=.int .i64 u.bo,eo:=.int .i64 u.bk,ep:=.int .i64 u.bo,a7:=.int .i64 u.a7}.l)) r (bt.al false {f with bk:=.int .i64 u.a7,bo:=.int .i64 2,eo:=.int .i64 u.bk,ep:=.int .i64 u.bo,a7:=.int .i64 u.a7}.l)) x=some (.al false l):=fun h=>by rw[du _ h.2.2];exact h.1
 refine bE i247 fun N aF=>?_
 refine aL Cl y2.1 ?_
 refine bE i240 fun pO je=>?_
 by_cases hw:w=u.key
 .subst hw
  refine aL IK (d' ak a0.g5 @ej (eC dY) (ag (I:b0<n)) (ag (I:r<n))) ?_
  have l0:∀{hi:gl},eR p e g n fl r K u hi a->eR p e g n fl r (fun _ ba aT b7=>K (.bN []) ba aT b7/\(∃f2:bu,ba r=some (.al false f2.l)/\f2.g5= .int .u64 u.key)/\ba b0=some (.al false [.ptr r 0])) u hi a:=fun h g' n' fl' cn az bG lU cE aw=>⟨h g' n' fl' cn az bG lU cE aw,⟨cn,bG.ak,bG.a0.g5⟩,by rw[aw b0 l3 dY.2.2];exact dY.1⟩
  refine dO fun cf=>aR.mono (aCO a5 cf bf (fun ah=>l0 (J rfl ah)) (fun ah=>l0 (tb rfl ah)) eJ) fun v ba aT b7 cB ah aA=>?_
  obtain⟨ah,⟨f2,h8,tm⟩,bI⟩:=ah
  refine aL IK (cc h8 tm bI @ej) ?_
  apply je
  refine a6 i240.eq_1 ?_
  intro _
  refine .all ?_
  intro dC
  refine dl (aN HF.eq_1 Cl) ?_
  apply aF
  refine a6 i247.eq_1 ?_
  exact fun _=>.all ah
 .have uL:(w==u.key)=false:=by simpa using hw
  refine aL IK (gq ak a0.g5 uL @ej (eC dY) (ag (I:b0<n)) (ag (I:r<n))) ?_
  apply je
  refine a6 i240.eq_1 ?_
  intro _
  refine .all ?_
  intro dC
  have nd:V.same 40 (.agg [.int .i64 u.bk,.int .i64 u.bo]) (.agg [.int .i64 u.bk,.int .i64 u.bo])=true:=nP rfl
  refine aL (aN HF.eq_1 Cl) (bs ak a0.a7 a0.bk a0.bo nd @bu.t15 @ej (eC qL) (ag (I:hD<n)) (eC y2) (ag (I:iQ<n)) (cw (eC vG) (ag (I:iD<n)) (ag (I:r<n)))) ?_
  refine dO fun cf=>aR.mono (LK (K:=(fun _ g n a=>K (.bN []) g n a)) bG cf (fun b ad=>by have:=bf b ad;omega) Dm ((U hw).trans I (fun b ad=>.inl ad) fun b ad bI=>du b bI)) fun v ba aT b7 cB ah aA=>?_
  apply aF
  refine a6 i247.eq_1 ?_
  exact fun _=>.all ah
end
section
variable{g:G}{n:Nat}{a:aE}{K:cj aE}{p:ff}{e:jw}{fl:List Nat}{r:Nat}{u:c3}{nx:gl}{f:bu}
theorem Tc{hn g7:V}(h:dH p a.an a.ar e g fl r u nx f)(ap:bm g n)(bf:∀b∈fl,b<n)(af:ud g fl r e hn g7)(bg:eR p e g n fl r K {u with bk:=p.R,bo:=2} (.ld p.R 2 (.lf e)) a):aR ct bA 177 [.ptr r 0,hn,g7] g n a K:=by
 have a5:=h
 obtain⟨a0,ak,dk,aj,df,eM,_⟩:=h
 have cV:=ap _ _ ak
 have da:=ap _ _ aj
 obtain⟨⟨v1,v2,fm,v4⟩,fX,gj,oS,as2⟩:=af.val
 refine bE i177 fun N aF=>?_
 refine aL OC (bs ak v1 v2 fm v4 fX gj oS as2 @ej (ag (I:r<n)) (cc (ag (I:r<n+3)) (ag (I:n<n+3)) (ag (I:n+1<n+3)) (ag (I:n+2<n+3)))) ?_
 have aw:∀b,b<n->(a1 (a1 (a1 g n (bt.al false [V.ptr r 0])) (n+1) (bt.al false [hn])) (n+2) (bt.al false [g7])) b=g b:=fun b ad=>bc (ag (I:b<n))
 refine dO fun cf=>G9 (a5.grow (n':=n+9) ap aw) cf fun n' az=>?_
 intro dE
 refine aL (aN adF.eq_1 OC) (bs ak v1 v2 fm v4 fX gj oS as2 @ej (ag (I:r<n)) (e_ (ag (I:r<n+3)) (ag (I:n<n+3)) (ag (I:n+1<n+3)) (ag (I:n+2<n+3)) (ag (I:r<n')) (ag (I:n<n')) (ag (I:n+1<n')) (ag (I:n+2<n')))) ?_
 have du:∀b,b<n->b≠r->(a1 (a1 (a1 (a1 (a1 (a1 g n (bt.al false [V.ptr r 0])) (n+1) (bt.al false [hn])) (n+2) (bt.al false [g7])) r (bt.al false {f with bk:=.int .i64 p.R,bo:=.int .i64 2}.l)) n' (bt.al false [V.fZ])) n' (bt.al false [V.fn (Fn.func 244) [] [V.ptr n 0,V.ptr (n+2) 0,V.ptr (n+1) 0,V.ptr n' 0]])) b=g b:=fun b ad jf=>by
  have c4:(r=b)=False:=eq_false fun e=>jf e.symm
  exact bc (cw c4 (ag (I:b<n)) (ag (I:b<n')))
 have bG:dH p a.an a.ar e (a1 (a1 (a1 (a1 (a1 (a1 g n (bt.al false [V.ptr r 0])) (n+1) (bt.al false [hn])) (n+2) (bt.al false [g7])) r (bt.al false {f with bk:=.int .i64 p.R,bo:=.int .i64 2}.l)) n' (bt.al false [V.fZ])) n' (bt.al false [V.fn (Fn.func 244) [] [V.ptr n 0,V.ptr (n+2) 0,V.ptr (n+1) 0,V.ptr n' 0]])) (ext fl n (n'+1)) r {u with bk:=p.R,bo:=2} .none {f with bk:=.int .i64 p.R,bo:=.int .i64 2}:=⟨⟨a0.x,a0.hX,a0.g5,a0.h_,a0.val,a0.bH,a0.done,a0.stays,rfl,rfl,a0.eo,a0.ep,a0.a7,a0.made,a0.j8⟩,bc (aN (ag (I:r<n)) (ag (I:r<n'))),e1.2 (.inl dk),by rw[du _ da df];exact aj,df,(fun hm=>by rcases e1.1 hm with h|h;exact eM h;omega),trivial⟩
 have gA:∀{x:Nat} {l:List V},(a1 (a1 (a1 (a1 (a1 (a1 g n (bt.al false [V.ptr r 0])) (n+1) (bt.al false [hn])) (n+2) (bt.al false [g7])) r (bt.al false {f with bk:=.int .i64 p.R,bo:=.int .i64 2}.l)) n' (bt.al false [V.fZ])) n' (bt.al false [V.fn (Fn.func 244) [] [V.ptr n 0,V.ptr (n+2) 0,V.ptr (n+1) 0,V.ptr n' 0]])) x=some (.al false l)->n<=x->x<n'+1->dI (a1 (a1 (a1 (a1 (a1 (a1 g n (bt.al false [V.ptr r 0])) (n+1) (bt.al false [hn])) (n+2) (bt.al false [g7])) r (bt.al false {f with bk:=.int .i64 p.R,bo:=.int .i64 2}.l)) n' (bt.al false [V.fZ])) n' (bt.al false [V.fn (Fn.func 244) [] [V.ptr n 0,V.ptr (n+2) 0,V.ptr (n+1) 0,V.ptr n' 0]])) (ext fl n (n'+1)) r x l:=fun h J U=>⟨h,e1.2 (.inr ⟨J,U⟩),I⟩
 have kp:qx (a1 (a1 (a1 (a1 (a1 (a1 g n (bt.al false [V.ptr r 0])) (n+1) (bt.al false [hn])) (n+2) (bt.al false [g7])) r (bt.al false {f with bk:=.int .i64 p.R,bo:=.int .i64 2}.l)) n' (bt.al false [V.fZ])) n' (bt.al false [V.fn (Fn.func 244) [] [V.ptr n 0,V.ptr (n+2) 0,V.ptr (n+1) 0,V.ptr n' 0]])) (ext fl n (n'+1)) r e n (n+1) (n+2) n':=⟨hn,g7,gA (bc (cc (ag (I:r<n)) (ag (I:n<n')) (ag (I:n+1<n')) (ag (I:n+2<n')))) I I,gA (bc (cc (ag (I:r<n)) (ag (I:n<n')) (ag (I:n+1<n')) (ag (I:n+2<n')))) I I,gA (bc (cc (ag (I:r<n)) (ag (I:n<n')) (ag (I:n+1<n')) (ag (I:n+2<n')))) I I,gA (bc (eW (ag (I:r<n)) (ag (I:r<n')) (ag (I:n<n')) (ag (I:n+1<n')) (ag (I:n+2<n')))) I I,af.mono (fun x aj=>e1.2 (.inl aj)) fun x aj iL=>du x (bf x aj) iL⟩
 refine dO fun cf=>aR.mono (LK (K:=(fun _ g n a=>K (.bN []) g n a)) bG cf (pX bf I) kp (bg.trans I (fun b ad=>by rcases e1.1 ad with h|h;exact .inl h;exact .inr h.1) fun b ad bI=>du b ad bI)) fun v ba aT b7 cB ah aA=>?_
 apply aF
 refine a6 i177.eq_1 ?_
 exact fun _=>.all ah
theorem Bt(he:e= .a1)(eJ:u.kind=2\/u.kind=5)(h:dH p a.an a.ar e g fl r u nx f)(ap:bm g n)(bf:∀b∈fl,b<n)(bg:eR p e g n fl r K {u with bk:=p.R,bo:=2} (.ld p.R 2 (.lf e)) a):aR ct bA 175 [.ptr r 0] g n a K:=by
 have a5:=h
 obtain⟨a0,ak,dk,aj,df,eM,_⟩:=h
 have cV:=ap _ _ ak
 have da:=ap _ _ aj
 have KM:(u.kind==4)=false:=by simp;omega
 refine bE i175 fun N aF=>?_
 have aw:∀b,b<n->(a1 g n (bt.al false [V.ptr r 0])) b=g b:=fun b ad=>bc (ag (I:b<n))
 refine aL auq (eW ak a0.hX KM @ej (ag (I:r<n))) ?_
 refine dO fun cf=>aR.mono (Tc (K:=fun _ g n a=>K (.bN []) g n a) (a5.grow (n':=n+1) ap aw) cf (pX bf I) (by rw[he];exact⟨⟨n,rfl,dI.new (bc (ag (I:r<n))) I I cV⟩,rfl⟩) (bg.grow I aw)) fun v ba aT b7 cB ah aA=>?_
 apply aF
 refine a6 i175.eq_1 ?_
 exact fun _=>.all ah
end
section
variable{g:G}{n:Nat}{a:aE}{K:cj aE}{p:ff}{e:jw}{fl:List Nat}{r:Nat}{u:c3}{nx:gl}{f:bu}
def s4(p:ff)(e:jw)(g:G)(n:Nat)(fl:List Nat)(r:Nat)(K:cj aE)(u:c3)(nx:gl)(a:aE):Prop:=
 ∀g' n' fl' cn,n<=n'->dH p a.an a.ar e g' fl' r u nx cn->(∀b∈fl',b<n')->(∀b∈fl',b∈fl\/n<=b)->(∀b,b<n->b∉fl->g' b=g b)->K (.bN []) g' n' a
theorem s4.ir(h:s4 p e g n fl r K u nx a)(dk:r∈fl):eR p e g n fl r K u nx a:=fun g' n' fl' cn az bG bf cE aw=>h g' n' fl' cn az bG bf cE fun b ad bI=>aw b ad fun e=>bI (e▸dk)
theorem s4.trans{bY:G}{bq:Nat}{gI:List Nat}(h:s4 p e g n fl r K u nx a)(az:n<=bq)(cE:∀b∈gI,b∈fl\/n<=b)(aw:∀b,b<n->b∉fl->bY b=g b):s4 p e bY bq gI r K u nx a:=by
 intro g' n' fl' cn oF ak lU oD p7
 refine h g' n' fl' cn I ak lU (fun b ad=>?_) fun b ad bI=>?_
 .rcases oD b ad with J|J
  .exact cE b J
  .exact .inr I
 .rw[p7 b I (fun J=>?_),aw b ad bI]
  rcases cE b J with U|U
  .exact bI U
  .omega
theorem dH.asC{g':G}{t:Nat}(h:dH p a.an a.ar e g fl r u nx f)(bg:t∈fl)(Bi:t≠r)(ap:bm g n)(aw:∀b,b<n->b≠t->g' b=g b):dH p a.an a.ar e g' fl r u .none f:=by
 obtain⟨a0,ak,dk,aj,df,eM,_⟩:=h
 exact⟨a0,by rw[aw r (ap _ _ ak) Bi.symm];exact ak,dk,by rw[aw _ (ap _ _ aj) (fun e=>eM (e▸bg))];exact aj,df,eM,trivial⟩
theorem SP(h:dH p a.an a.ar e g fl r u .draw f)(ap:bm g n)(bf:∀b∈fl,b<n){w:Int}(hw:a.at_ p.R 0 w)
 (bg:s4 p e g n fl r K u (.wait w) (a.put p.R 0 (fy w 18446744073709551615 1))):eG f.next [] g n a K:=by
 have a5:=h
 obtain⟨a0,ak,dk,aj,df,eM,b0,dd,t,ch,hv,dY,hA,fB,Ki,Gb,Bi,zm,nf,h9⟩:=h
 refine⟨_,_,_,hv,?_⟩
 have lt:=ap _ _ nf
 have l3:=ap _ _ dY.1
 have iA:=ap _ _ hA.1
 refine bE i237 fun N aF=>?_
 refine aL Ax (cc (eC dY) (ag (I:b0<n)) (eC hA) (ag (I:dd<n))) ?_
 refine BZ nf (Jw ap nf hw fun g' n' az sy aw=>?_)
 intro dm
 refine dl Ax ?_
 apply aF
 refine a6 i237.eq_1 ?_
 intro _
 have bG:dH p (a.put p.R 0 (fy w 18446744073709551615 1)).an (a.put p.R 0 (fy w 18446744073709551615 1)).ar e g' fl r u .none f:=a5.asC zm Bi ap aw
 have gA:∀{x:Nat} {l:List V},x≠t->dI g fl r x l->dI g' fl r x l:=fun Lj h=>⟨by rw[aw _ (bf _ h.2.1) Lj];exact h.1,h.2.1,h.2.2⟩
 refine .all (bg g' n' fl f az ⟨bG.a0,bG.ak,dk,bG.aj,df,eM,b0,dd,t,ch,hv,gA Ki dY,gA Gb hA,?_,Ki,Gb,Bi,zm,sy,h9⟩ (fun b ad=>by have:=bf b ad;omega) (fun b ad=>.inl ad) fun b ad bI=>aw b ad fun e=>bI (e▸zm))
 cases e with
 |a1=>exact fB
 |b_ hv=>obtain⟨x,J,U⟩:=fB;exact⟨x,J,gA (h9 x J) U⟩
theorem Tb{bK:Int}(h:dH p a.an a.ar e g fl r u (.wait bK) f)(ap:bm g n)(bf:∀b∈fl,b<n){w:Int}(hw:a.at_ p.R 1 w)(eJ:e= .a1->u.kind=2\/u.kind=5)(ng:∀hv,e= .b_ hv->hv∉fl/\∃kv,g hv=some (.al false [.ptr r 0,kv]))
 (J:w≠bK->s4 p e g n fl r K u (.wait bK) a.tick) (U:w=bK->s4 p e g n fl r K {u with bk:=p.R,bo:=2} (.ld p.R 2 (.lf e)) a.tick):eG f.next [] g n a K:=by
 have a5:=h
 obtain⟨a0,ak,dk,aj,df,eM,b0,dd,t,ch,hv,dY,hA,fB,Ki,Gb,Bi,zm,nf,h9⟩:=h
 refine⟨_,_,_,hv,?_⟩
 have lt:=ap _ _ nf
 have l3:=ap _ _ dY.1
 have iA:=ap _ _ hA.1
 refine bE i237 fun N aF=>?_
 refine aL Ax (cc (eC dY) (ag (I:b0<n)) (eC hA) (ag (I:dd<n))) ?_
 refine BZ nf (NL (i:=0) ap nf I hw (fun bp n' az=>?_) fun he g' n' az sy aw=>?_)
 .intro dm
  refine dl Ax ?_
  apply aF
  refine a6 i237.eq_1 ?_
  exact fun _=>.all (J bp g n' fl f az a5 (fun b ad=>by have:=bf b ad;omega) (fun b ad=>.inl ad) fun b _ _=>rfl)
 .intro dm
  have bG:dH p a.tick.an a.tick.ar e g' fl r u .none f:=a5.asC zm Bi ap aw
  have gA:∀{x:Nat} {l:List V},x≠t->dI g fl r x l->dI g' fl r x l:=fun Lj h=>⟨by rw[aw _ (bf _ h.2.1) Lj];exact h.1,h.2.1,h.2.2⟩
  have lU:∀b∈fl,b<n':=fun b ad=>by have:=bf b ad;omega
  have l0:eR p e g' n' fl r (fun _ g n a=>K (.bN []) g n a) {u with bk:=p.R,bo:=2} (.ld p.R 2 (.lf e)) a.tick:=((U he).trans (K:=K) az (fun b ad=>.inl ad) fun b ad bI=>aw b ad fun e=>bI (e▸zm)).ir dk
  have hr:=(gA Gb hA).1
  cases e with
  |a1=>
   have xw:ch= .fn (.func 175) [.ptr r 0] []:=fB
   subst xw
   refine aL Ax hr ?_
   refine aR.mono (Bt (K:=(fun _ g n a=>K (.bN []) g n a)) rfl (eJ rfl) bG dm lU l0) fun v ba aT b7 cB ah aA=>?_
   apply aF
   refine a6 i237.eq_1 ?_
   exact fun _=>.all ah
  |b_ rO=>
   obtain⟨x,gp,ay2⟩:=fB
   obtain⟨qU,kv,Gr⟩:=ng rO rfl
   have nh:=gA (h9 x gp) ay2
   have az_:g' rO=some (.al false [.ptr r 0,kv]):=by rw[aw _ (ap _ _ Gr) (fun e=>qU (e▸zm))];exact Gr
   subst gp
   refine aL Ax hr ?_
   refine bE i176 fun pO je=>?_
   refine aL aur (aN nh.1 az_) ?_
   refine aR.mono (Tc (K:=(fun _ g n a=>K (.bN []) g n a)) bG dm lU ⟨x,rfl,rfl,nh⟩ l0) fun v ba aT b7 cB ah aA=>?_
   apply je
   refine a6 i176.eq_1 ?_
   intro _
   refine .all ?_
   intro dC
   apply aF
   refine a6 i237.eq_1 ?_
   exact fun _=>.all ah
end
section
variable{g:G}{n:Nat}{a:aE}{K:cj aE}{p:ff}{e:jw}{fl:List Nat}{r:Nat}{u:c3}{nx:gl}{f:bu}
theorem wX.val{ch:V}(h:wX g fl r e ch):ch.cell=true/\ch.cells=[ch]/\ch.known=true/\V.same 40 ch ch=true:=by
 cases e with
 |a1=>have ay:ch= .fn (.func 175) [.ptr r 0] []:=h;subst ay;exact⟨rfl,rfl,rfl,kS aM aM rfl rfl⟩
 |b_ hv=>obtain⟨x,ay,_⟩:=h;subst ay;exact⟨rfl,rfl,rfl,kS aM aM rfl rfl⟩
theorem wX.mono{g':G}{fl':List Nat}{ch:V}(aV:∀x∈fl,x∈fl')(aw:∀x∈fl,x≠r->g' x=g x)(h:wX g fl r e ch):wX g' fl' r e ch:=by
 cases e with
 |a1=>exact h
 |b_ hv=>obtain⟨x,ay,U⟩:=h;exact⟨x,ay,U.mono aV aw⟩
theorem SU{ch:V}(h:dH p a.an a.ar e g fl r u nx f)(ap:bm g n)(bf:∀b∈fl,b<n)(af:wX g fl r e ch)(bg:eR p e g n fl r K u .draw a):aR ct bA 174 [.ptr r 0,ch] g n a K:=by
 have a5:=h
 obtain⟨a0,ak,dk,aj,df,eM,_⟩:=h
 have cV:=ap _ _ ak
 have da:=ap _ _ aj
 have gR:=aj
 have jg:=a0.x
 simp only[fK]at gR
 obtain⟨v1,v2,fm,v4⟩:=af.val
 refine bE i174 fun N aF=>?_
 refine aL OB (bs ak gR jg v1 v2 fm v4 @ej (ag (I:r<n)) (ag (I:p.aP<n)) (ag (I:n<n+1)) (aN (ag (I:r<n+1)) (ag (I:p.aP<n+1)))) ?_
 refine dO fun cf=>BY cf fun ba aT cB j3 cQ=>?_
 intro dC
 have kZ:ba n=some (.al false [ch]):=by rw[cQ n I];exact bc (ag (I:n<n+1))
 have k0:ba r=some (.al false f.l):=by rw[cQ r I];exact bc (cw ak (ag (I:r<n)) (ag (I:r<n+1)))
 have za:kB (n+1) 17 ba:=kB.b6 (of_eq_true A7) fun j ax=>cQ (n+1+j) I
 have kI:∀b,b<n->ba b=g b:=fun b ad=>by rw[cQ b I];exact bc (aN (ag (I:b<n)) (ag (I:b<n+1)))
 refine⟨za,?_⟩
 refine aL (aN adE.eq_1 OB) (bs za kZ k0 v1 v2 fm v4 @ej (ag (I:r<n)) (ag (I:p.aP<n)) (ag (I:n<n+1)) (aN (ag (I:r<n+1)) (ag (I:p.aP<n+1)))) ?_
 apply aF
 refine a6 i174.eq_1 ?_
 intro _
 refine .all (bg _ aT (ext fl n aT) {f with next:=.fn (.func 237) [] [.ptr (n+16) 0,.ptr n 0]} I ⟨⟨a0.x,a0.hX,a0.g5,a0.h_,a0.val,a0.bH,a0.done,a0.stays,a0.bk,a0.bo,a0.eo,a0.ep,a0.a7,a0.made,a0.j8⟩,?_,e1.2 (.inl dk),?_,df,?_,n+16,n,n+18,ch,rfl,⟨?_,e1.2 (.inr I),I⟩,⟨?_,e1.2 (.inr I),I⟩,af.mono (fun x aj=>e1.2 (.inl aj)) (fun x aj iL=>?_),I,I,I,e1.2 (.inr I),?_,fun x aj=>?_⟩ (pX bf I) (fun b ad=>by rcases e1.1 ad with h|h;exact .inl h;exact .inr h.1) fun b ad bI=>?_)
 .exact bc @ej
 .exact bc (gq (kI p.aP da) aj gR fK.eq_1 (ma df) (mb df) (ag (I:p.aP<n)))
 .intro hm
  rcases e1.1 hm with h|h
  .exact eM h
  .omega
 .exact bc (ag (I:r<n))
 .exact bc (aN kZ (ag (I:r<n)))
 .have c4:(r=x)=False:=eq_false fun e=>iL e.symm
  have:=bf x aj
  exact bc (cw c4 (kI x this) (ag (I:x<n)))
 .exact bc (aN j3 (ag (I:r<n)))
 .cases e with
  |a1=>have ay:ch= .fn (.func 175) [.ptr r 0] []:=af;rw[ay]at aj;simp at aj
  |b_ hv=>
   obtain⟨y,ay,U⟩:=af
   rw[ay]at aj
   simp only[V.fn.injEq,List.cons.injEq,V.ptr.injEq,and_true,true_and]at aj
   subst aj
   have:=bf _ U.2.1
   omega
 .have c4:(r=b)=False:=eq_false fun e=>bI e.symm
  exact bc (cw c4 (kI b ad) (ag (I:b<n)))
theorem aCv{key val:Int}{ch:Nat}(aB:g p.aP=some (fK p a.an a.ar))(ap:bm g n)(hv:g ch=some (.al false [.int .u64 val]))
 (ah:∀g' n' r fl' cn,n<=n'->dH p a.an a.ar .a1 g' fl' r ⟨key,val,2,false,0,0,0,0,0,0,false,false,none⟩ .draw cn->(∀b∈fl',n<=b/\b<n')->(∀b,b<n->g' b=g b)->K (.ptr r 0) g' n' a):
 aR ct bA 103 [.ptr p.aP 0,.agg [.int .i64 2,.int .u64 key,.slice ch 0 1 1 1,.int .i64 0,.int .i64 0]] g n a K:=by
 have cF:=ap _ _ hv
 have da:=ap _ _ aB
 have eV:=aB
 simp only[fK]at eV
 refine bE i103 fun N aF=>?_
 refine aL auh (eW eV hv @ej (ag (I:p.aP<n)) (ag (I:ch<n))) ?_
 refine dO fun cf=>aR.mono (SU (e:=.a1) (fl:=[n+1]) (K:=(fun v ba aT b7=>K (.ptr (n+1) 0) ba aT b7)) (u:=⟨key,val,2,false,0,0,0,0,0,0,false,false,none⟩) (f:=⟨.ptr p.aP 0,.int .i64 2,.int .u64 key,.br,.int .i64 0,.int .i64 0,.int .u64 val,.int .i64 0,.br,.int .u64 0,.int .i64 0,.fZ,.bool false,.bool false,.bool false,.int .i64 0,.int .i64 0,.int .i64 0,.int .i64 0,.int .i64 0,.int .i64 0,.int .u64 0,.bool false⟩) (nx:=.none) ⟨?_,?_,aM,?_,I,by simp;omega,trivial⟩ cf (fun b ad=>by simp only[List.mem_singleton]at ad;omega) rfl fun ba aT s' f2 cB bG bf cE aw=>ah ba aT (n+1) s' f2 I bG (fun b ad=>⟨?_,bf b ad⟩) fun b ad=>?_) fun v ba aT b7 cB eJ aA=>?_
 .exact⟨rfl,rfl,rfl,rfl,rfl,rfl,rfl,rfl,rfl,rfl,rfl,rfl,rfl,rfl,fun b h=>by cases h⟩
 .exact bc bu.l.eq_1
 .exact bc (cw eV fK.eq_1 (ag (I:p.aP<n)))
 .rcases cE b ad with h|h
  .simp only[List.mem_singleton]at h;omega
  .omega
 .rw[aw b I I]
  exact bc (ag (I:b<n))
 .apply aF
  refine a6 i103.eq_1 ?_
  exact fun _=>.all eJ
end
