/- Part of the proof of BatchOnce, for every input. -/
import Derived.Test.YtobokeclhlbnmaaGreatB5
set_option linter.all false
namespace Go.Proofs.Run
open Go Go.Abs
attribute [local irreducible] b9 cI cr cg aR
set_option maxRecDepth 100000
set_option maxHeartbeats 4000000
section
variable{g:G}{n:Nat}{a:aE}{K:cj aE}{p:ew}{fl:List Nat}{r hv k:Nat}{u:lj}{f0 f:bF}{L:List (Nat×bt)}
theorem aBP(hu:u.aY= .val)(h:ou p a.an a.ar g fl r hv k u f0 f L)(ap:bm g n){w:Int}(hw:a.at_ u.a7 2 w)
 (J:w3 p g n fl r hv k K {u with val:=w,bH:=true,aY:=.dec} a.tick):
 eG f.next [] g n a K:=by
 obtain⟨hM,nv,aZ,⟨kv,aW,jt,ov,jy,mg,rfl⟩,own,rfl⟩:=h
 simp only[vm,hu]at mg
 obtain⟨s2,iq,ea,ga,rfl⟩:=mg
 refine⟨_,_,_,ga,?_⟩
 have aH:f.done= .bool false:=by rw[aZ.done,hu];rfl
 have m':=jy
 rcases jy with⟨rfl,rfl,g3,j0,rfl⟩|⟨gh,eE,rfl,rfl,e0,g8,rfl⟩
 .refine iU fun F D T=>?_
  simp only[oV,h4,and_true,List.map,oX,kL,k7]at F D T
  have cd:k<n:=by simp only[T]
  have cV:r<n:=by simp only[T]
  have kM:hv<n:=by simp only[T]
  have da:p.aP<n:=by simp only[T]
  have zD:s2<n:=by simp only[T]
  have DR:iq<n:=by simp only[T]
  have wj:ea<n:=by simp only[T]
  refine bE i233 fun N aF=>?_
  refine aL Aw (d' F D T @cK aZ.x aZ.a7) ?_
  refine rT hw fun n' az=>?_
  intro dm
  refine aL (aN MA.eq_1 Aw) (bs F D T @cK aZ.x aZ.a7 (ag (I:s2<n')) (ag (I:iq<n')) (ag (I:ea<n')) (ag (I:r<n')) (ag (I:k<n')) (aN (ag (I:hv<n')) (ag (I:p.aP<n')))) ?_
  refine dO fun cf=>AO (r:=k) (f:=f) ?_ cf ⟨rfl,rfl⟩ ⟨rfl,rfl⟩ ⟨rfl,rfl⟩ ⟨rfl,rfl⟩ fun ba aT cB fQ cQ=>?_
  .exact eP (ag (I:k<n'))
  intro jz
  have E:∀b,b<n->b≠k->ba b=g b:=fun b ad qN=>by
   rw[cQ b I qN];exact bc (ag (I:b<n'))
  have rl:ba s2=some (.al false [.ptr k 0]):=by rw[E s2 zD (by simp only[ne_eq,D,not_false_eq_true])];simp only[F]
  have sY:ba n'=some (.al false [.int .u64 w]):=by rw[cQ n' I I];exact dX
  refine aL Aw (cc rl fQ @cK @kS) ?_
  apply aF
  refine a6 i233.eq_1 ?_
  intro _
  refine .all (J _ _ _ f0 {f with hl:=.int .i64 0,gJ:=.slice n' 0 1 1 1,fV:=.int .u64 0,fW:=.int .i64 0,effect:=.bool true,next:=.fn (.func 234) [] [.ptr s2 0,.ptr iq 0]} _ I ⟨hM,nv,hz,⟨_,_,_,_,m',⟨s2,iq,ea,n',rfl,rfl,rfl,rfl,rfl,rfl⟩,rfl⟩,⟨?_,?_⟩,rfl⟩ ?_ ?_)
  .exact eP (bs aZ.x jS.eq_1 kL.eq_1 k7.eq_1 g3 j0 fQ sY (E _ cV (by simp only[ne_eq,D,not_false_eq_true])) (E _ kM (by simp only[ne_eq,D,not_false_eq_true])) (E _ da (by simp only[ne_eq,D,not_false_eq_true])) (ji (E _ zD (by simp only[ne_eq,D,not_false_eq_true])) (E _ DR (by simp only[ne_eq,D,not_false_eq_true])) (E _ wj (by simp only[ne_eq,D,not_false_eq_true])) (ag (I:k<n')) (ag (I:r<n')) (ag (I:hv<n')) (ag (I:p.aP<n')) (ag (I:s2<n')) (ag (I:iq<n')) (ag (I:ea<n'))))
  .exact hc
  .exact ho
  ·(intro b ad bI;have c4:=zN bI;simp only[h4,and_true,List.map,oV]at c4;have qN:b≠k:=(fun e=>bI (by rw[e];simp));have o4:(k=b)=False:=eq_false fun e=>qN e.symm;exact bc (aN (E b ad qN) o4))
 .refine iU fun F D T=>?_
  simp only[oV,h4,and_true,List.map,oX,kL,k7]at F D T
  have cd:k<n:=by simp only[T]
  have cV:r<n:=by simp only[T]
  have kM:hv<n:=by simp only[T]
  have da:p.aP<n:=by simp only[T]
  have zD:s2<n:=by simp only[T]
  have DR:iq<n:=by simp only[T]
  have wj:ea<n:=by simp only[T]
  have G1:gh<n:=by simp only[T]
  have G0:eE<n:=by simp only[T]
  refine bE i233 fun N aF=>?_
  refine aL Aw (d' F D T @cK aZ.x aZ.a7) ?_
  refine rT hw fun n' az=>?_
  intro dm
  refine aL (aN MA.eq_1 Aw) (bs F D T @cK aZ.x aZ.a7 (ag (I:s2<n')) (ag (I:iq<n')) (ag (I:ea<n')) (ag (I:r<n')) (ag (I:k<n')) (cc (ag (I:hv<n')) (ag (I:p.aP<n')) (ag (I:gh<n')) (ag (I:eE<n')))) ?_
  refine dO fun cf=>AO (r:=k) (f:=f) ?_ cf ⟨rfl,rfl⟩ ⟨rfl,rfl⟩ ⟨rfl,rfl⟩ ⟨rfl,rfl⟩ fun ba aT cB fQ cQ=>?_
  .exact eP (ag (I:k<n'))
  intro jz
  have E:∀b,b<n->b≠k->ba b=g b:=fun b ad qN=>by
   rw[cQ b I qN];exact bc (ag (I:b<n'))
  have rl:ba s2=some (.al false [.ptr k 0]):=by rw[E s2 zD (by simp only[ne_eq,D,not_false_eq_true])];simp only[F]
  have sY:ba n'=some (.al false [.int .u64 w]):=by rw[cQ n' I I];exact dX
  refine aL Aw (cc rl fQ @cK @kS) ?_
  apply aF
  refine a6 i233.eq_1 ?_
  intro _
  refine .all (J _ _ _ f0 {f with hl:=.int .i64 0,gJ:=.slice n' 0 1 1 1,fV:=.int .u64 0,fW:=.int .i64 0,effect:=.bool true,next:=.fn (.func 234) [] [.ptr s2 0,.ptr iq 0]} _ I ⟨hM,nv,hz,⟨_,_,_,_,m',⟨s2,iq,ea,n',rfl,rfl,rfl,rfl,rfl,rfl⟩,rfl⟩,⟨?_,?_⟩,rfl⟩ ?_ ?_)
  .exact eP (bs aZ.x jS.eq_1 kL.eq_1 k7.eq_1 e0 fQ sY (E _ cV (by simp only[ne_eq,D,not_false_eq_true])) (E _ kM (by simp only[ne_eq,D,not_false_eq_true])) (E _ da (by simp only[ne_eq,D,not_false_eq_true])) (E _ zD (by simp only[ne_eq,D,not_false_eq_true])) (kw (E _ DR (by simp only[ne_eq,D,not_false_eq_true])) (E _ wj (by simp only[ne_eq,D,not_false_eq_true])) (E _ G1 (by simp only[ne_eq,D,not_false_eq_true])) (E _ G0 (by simp only[ne_eq,D,not_false_eq_true])) (ag (I:k<n')) (ag (I:r<n')) (ag (I:hv<n')) (ag (I:p.aP<n')) (ag (I:s2<n')) (ag (I:iq<n')) (ag (I:ea<n'))))
  .exact hc
  .exact ho
  ·(intro b ad bI;have c4:=zN bI;simp only[h4,and_true,List.map,oV]at c4;have qN:b≠k:=(fun e=>bI (by rw[e];simp));have o4:(k=b)=False:=eq_false fun e=>qN e.symm;exact bc (aN (E b ad qN) o4))
end
section
variable{g:G}{n:Nat}{a:aE}{K:cj aE}{p:ew}{fl:List Nat}{r hv k:Nat}{u:lj}{f0 f:bF}{L:List (Nat×bt)}
theorem aBL(hu:u.aY= .dec)(h:ou p a.an a.ar g fl r hv k u f0 f L)(ap:bm g n){w:Int}(hw:a.at_ p.R 0 w)
 (J:w3 p g n fl r hv k K {u with aY:=.jo} (a.put p.R 0 (fy w 18446744073709551615 18446744069414584319))):
 eG f.next [] g n a K:=by
 obtain⟨hM,nv,aZ,⟨kv,aW,jt,ov,jy,mg,rfl⟩,own,rfl⟩:=h
 simp only[vm,hu]at mg
 obtain⟨s2,iq,ea,aO,ga,d_,dL,fQ,mN,rfl⟩:=mg
 refine⟨_,_,_,ga,?_⟩
 have aH:f.done= .bool false:=by rw[aZ.done,hu];rfl
 have m':=jy
 rcases jy with⟨rfl,rfl,g3,j0,rfl⟩|⟨gh,eE,rfl,rfl,e0,g8,rfl⟩
 .refine iU fun F D T=>?_
  simp only[oV,h4,and_true,List.map,oX,kL,k7]at F D T
  have cd:k<n:=by simp only[T]
  have cV:r<n:=by simp only[T]
  have kM:hv<n:=by simp only[T]
  have da:p.aP<n:=by simp only[T]
  have zD:s2<n:=by simp only[T]
  have DR:iq<n:=by simp only[T]
  have wj:ea<n:=by simp only[T]
  refine bE i234 fun N aF=>?_
  refine aL Fx (eW F D T @cK aZ.x) ?_
  refine yQ hw fun n' az=>?_
  intro dm
  refine aL Fx (eW F D T @cK aZ.x) ?_
  refine bE i235 fun pO je=>?_
  refine aL OK (bs F D T @cK aZ.x (ag (I:s2<n')) (ag (I:iq<n')) (ag (I:ea<n')) (ag (I:r<n')) (ag (I:k<n')) (ag (I:hv<n')) (ag (I:p.aP<n'))) ?_
  apply je
  refine a6 i235.eq_1 ?_
  intro _
  refine .all ?_
  intro gB
  apply aF
  refine a6 i234.eq_1 ?_
  intro _
  refine .all (J _ _ _ f0 {f with next:=.fn (.func 286) [] [.ptr n' 0,.ptr (n'+1) 0]} _ I ⟨hM,nv,hz,⟨_,_,_,_,m',⟨n',n'+1,ea,rfl,rfl⟩,rfl⟩,⟨?_,?_⟩,rfl⟩ ?_ ?_)
  .exact eP (bs aZ.x jS.eq_1 kL.eq_1 k7.eq_1 g3 j0 (ag (I:s2<n')) (ag (I:iq<n')) (ag (I:ea<n')) (ag (I:r<n')) (ag (I:k<n')) (aN (ag (I:hv<n')) (ag (I:p.aP<n'))))
  .exact hc
  .exact ho
  .exact wU n'
 .refine iU fun F D T=>?_
  simp only[oV,h4,and_true,List.map,oX,kL,k7]at F D T
  have cd:k<n:=by simp only[T]
  have cV:r<n:=by simp only[T]
  have kM:hv<n:=by simp only[T]
  have da:p.aP<n:=by simp only[T]
  have zD:s2<n:=by simp only[T]
  have DR:iq<n:=by simp only[T]
  have wj:ea<n:=by simp only[T]
  have G1:gh<n:=by simp only[T]
  have G0:eE<n:=by simp only[T]
  refine bE i234 fun N aF=>?_
  refine aL Fx (eW F D T @cK aZ.x) ?_
  refine yQ hw fun n' az=>?_
  intro dm
  refine aL Fx (eW F D T @cK aZ.x) ?_
  refine bE i235 fun pO je=>?_
  refine aL OK (bs F D T @cK aZ.x (ag (I:s2<n')) (ag (I:iq<n')) (ag (I:ea<n')) (ag (I:r<n')) (ag (I:k<n')) (ag (I:hv<n')) (cw (ag (I:p.aP<n')) (ag (I:gh<n')) (ag (I:eE<n')))) ?_
  apply je
  refine a6 i235.eq_1 ?_
  intro _
  refine .all ?_
  intro gB
  apply aF
  refine a6 i234.eq_1 ?_
  intro _
  refine .all (J _ _ _ f0 {f with next:=.fn (.func 286) [] [.ptr n' 0,.ptr (n'+1) 0]} _ I ⟨hM,nv,hz,⟨_,_,_,_,m',⟨n',n'+1,ea,rfl,rfl⟩,rfl⟩,⟨?_,?_⟩,rfl⟩ ?_ ?_)
  .exact eP (bs aZ.x jS.eq_1 kL.eq_1 k7.eq_1 e0 (ag (I:s2<n')) (ag (I:iq<n')) (ag (I:ea<n')) (ag (I:r<n')) (ag (I:k<n')) (ag (I:hv<n')) (cw (ag (I:p.aP<n')) (ag (I:gh<n')) (ag (I:eE<n'))))
  .exact hc
  .exact ho
  .exact wU n'
theorem aBN(hu:u.aY= .jo)(h:ou p a.an a.ar g fl r hv k u f0 f L)(ap:bm g n){w:Int}(hw:a.at_ u.a7 0 w)
 (J:w3 p g n fl r hv k K {u with aY:=.j9 w} a.tick):
 eG f.next [] g n a K:=by
 obtain⟨hM,nv,aZ,⟨kv,aW,jt,ov,jy,mg,rfl⟩,own,rfl⟩:=h
 simp only[vm,hu]at mg
 obtain⟨nt,nu,ea,ga,rfl⟩:=mg
 refine⟨_,_,_,ga,?_⟩
 have aH:f.done= .bool false:=by rw[aZ.done,hu];rfl
 have m':=jy
 rcases jy with⟨rfl,rfl,g3,j0,rfl⟩|⟨gh,eE,rfl,rfl,e0,g8,rfl⟩
 .refine iU fun F D T=>?_
  simp only[oV,h4,and_true,List.map,oX,kL,k7]at F D T
  have cd:k<n:=by simp only[T]
  have cV:r<n:=by simp only[T]
  have kM:hv<n:=by simp only[T]
  have da:p.aP<n:=by simp only[T]
  have LA:nt<n:=by simp only[T]
  have LB:nu<n:=by simp only[T]
  have wj:ea<n:=by simp only[T]
  refine bE i286 fun N aF=>?_
  refine aL FC (bs F D T @cK aZ.x aZ.a7 (ag (I:nt<n)) (ag (I:nu<n)) (ag (I:ea<n)) (ag (I:r<n)) (ag (I:k<n)) (aN (ag (I:hv<n)) (ag (I:p.aP<n)))) ?_
  refine rT hw fun n' az=>?_
  intro dm
  refine aL (aN MI.eq_1 FC) (bs F D T @cK aZ.x aZ.a7 (ag (I:nt<n)) (ag (I:nu<n)) (ag (I:ea<n)) (ag (I:r<n)) (ag (I:k<n)) (aN (ag (I:hv<n)) (ag (I:p.aP<n)))) ?_
  apply aF
  refine a6 i286.eq_1 ?_
  intro _
  refine .all (J _ _ _ f0 {f with next:=.fn (.func 287) [] [.ptr nt 0,.ptr (n+15) 0,.ptr nu 0]} _ I ⟨hM,nv,hz,⟨_,_,_,_,m',⟨nt,nu,n+15,ea,rfl,rfl⟩,rfl⟩,⟨?_,?_⟩,rfl⟩ ?_ ?_)
  .exact eP (bs aZ.x jS.eq_1 kL.eq_1 k7.eq_1 g3 j0 aZ.a7 (ag (I:nt<n)) (ag (I:nu<n)) (ag (I:ea<n)) (ag (I:r<n)) (cw (ag (I:k<n)) (ag (I:hv<n)) (ag (I:p.aP<n))))
  .exact hc
  .exact ho
  .exact wU n
 .refine iU fun F D T=>?_
  simp only[oV,h4,and_true,List.map,oX,kL,k7]at F D T
  have cd:k<n:=by simp only[T]
  have cV:r<n:=by simp only[T]
  have kM:hv<n:=by simp only[T]
  have da:p.aP<n:=by simp only[T]
  have LA:nt<n:=by simp only[T]
  have LB:nu<n:=by simp only[T]
  have wj:ea<n:=by simp only[T]
  have G1:gh<n:=by simp only[T]
  have G0:eE<n:=by simp only[T]
  refine bE i286 fun N aF=>?_
  refine aL FC (bs F D T @cK aZ.x aZ.a7 (ag (I:nt<n)) (ag (I:nu<n)) (ag (I:ea<n)) (ag (I:r<n)) (ag (I:k<n)) (cc (ag (I:hv<n)) (ag (I:p.aP<n)) (ag (I:gh<n)) (ag (I:eE<n)))) ?_
  refine rT hw fun n' az=>?_
  intro dm
  refine aL (aN MI.eq_1 FC) (bs F D T @cK aZ.x aZ.a7 (ag (I:nt<n)) (ag (I:nu<n)) (ag (I:ea<n)) (ag (I:r<n)) (ag (I:k<n)) (cc (ag (I:hv<n)) (ag (I:p.aP<n)) (ag (I:gh<n)) (ag (I:eE<n)))) ?_
  apply aF
  refine a6 i286.eq_1 ?_
  intro _
  refine .all (J _ _ _ f0 {f with next:=.fn (.func 287) [] [.ptr nt 0,.ptr (n+15) 0,.ptr nu 0]} _ I ⟨hM,nv,hz,⟨_,_,_,_,m',⟨nt,nu,n+15,ea,rfl,rfl⟩,rfl⟩,⟨?_,?_⟩,rfl⟩ ?_ ?_)
  .exact eP (bs aZ.x jS.eq_1 kL.eq_1 k7.eq_1 e0 aZ.a7 (ag (I:nt<n)) (ag (I:nu<n)) (ag (I:ea<n)) (ag (I:r<n)) (ag (I:k<n)) (cc (ag (I:hv<n)) (ag (I:p.aP<n)) (ag (I:gh<n)) (ag (I:eE<n))))
  .exact hc
  .exact ho
  .exact wU n
theorem aBO{h1:Int}(hu:u.aY= .j9 h1)(h:ou p a.an a.ar g fl r hv k u f0 f L)(ap:bm g n)(rO:dZ h1){w:Int}(hw:a.at_ u.bk u.bo w)(bd:(a.put u.bk u.bo h1).m.has u.a7)(av:∀x∈a.queue,x.h≠u.a7)(sw:a.queue.length<40000)
 (J:∀b bC fl' c_,w3 p g n fl r hv k K {u with aY:=.done} (((a.put u.bk u.bo h1).push u.a7 b bC fl').cX c_)):
 eG f.next [] g n a K:=by
 obtain⟨hM,nv,aZ,⟨kv,aW,jt,ov,jy,mg,rfl⟩,own,rfl⟩:=h
 simp only[vm,hu]at mg
 obtain⟨nt,nu,yj,ea,ga,rfl⟩:=mg
 refine⟨_,_,_,ga,?_⟩
 have aH:f.done= .bool false:=by rw[aZ.done,hu];rfl
 have m':=jy
 rcases jy with⟨rfl,rfl,g3,j0,rfl⟩|⟨gh,eE,rfl,rfl,e0,g8,rfl⟩
 .refine iU fun F D T=>?_
  simp only[oV,h4,and_true,List.map,oX,kL,k7]at F D T
  have cd:k<n:=by simp only[T]
  have cV:r<n:=by simp only[T]
  have kM:hv<n:=by simp only[T]
  have da:p.aP<n:=by simp only[T]
  have LA:nt<n:=by simp only[T]
  have LB:nu<n:=by simp only[T]
  have aCI:yj<n:=by simp only[T]
  have wj:ea<n:=by simp only[T]
  refine bE i287 fun N aF=>?_
  refine aL AA (e_ F D T @cK aZ.x aZ.a7 aZ.bk aZ.bo) ?_
  refine ye hw rO fun n' az=>?_
  intro dm
  refine aL AA (d' F D T @cK aZ.x aZ.a7) ?_
  refine FW (a:=a.put u.bk u.bo h1) bd av sw fun aT v2 b bC fl' c_ cB=>?_
  intro dC
  refine aL AA (d' F D T @cK aZ.x aZ.a7) ?_
  refine bE i172 fun pO je=>?_
  refine aL OA (cc F D T @cK) ?_
  apply je
  refine a6 i172.eq_1 ?_
  intro _
  refine .all ?_
  intro gB
  apply aF
  refine a6 i287.eq_1 ?_
  intro _
  refine .all (J b bC fl' c_ _ _ _ f0 {f with done:=.bool true} _ I ⟨hM,nv,hz,⟨_,_,_,_,m',rfl,rfl⟩,⟨?_,?_⟩,rfl⟩ ?_ ?_)
  .exact eP (kw aZ.x jS.eq_1 kL.eq_1 k7.eq_1 g3 j0 aZ.a7 aZ.bk aZ.bo aE.push.eq_1 aE.cX.eq_1)
  .exact hc
  .exact ho
  .exact nY
 .refine iU fun F D T=>?_
  simp only[oV,h4,and_true,List.map,oX,kL,k7]at F D T
  have cd:k<n:=by simp only[T]
  have cV:r<n:=by simp only[T]
  have kM:hv<n:=by simp only[T]
  have da:p.aP<n:=by simp only[T]
  have LA:nt<n:=by simp only[T]
  have LB:nu<n:=by simp only[T]
  have aCI:yj<n:=by simp only[T]
  have wj:ea<n:=by simp only[T]
  have G1:gh<n:=by simp only[T]
  have G0:eE<n:=by simp only[T]
  refine bE i287 fun N aF=>?_
  refine aL AA (e_ F D T @cK aZ.x aZ.a7 aZ.bk aZ.bo) ?_
  refine ye hw rO fun n' az=>?_
  intro dm
  refine aL AA (d' F D T @cK aZ.x aZ.a7) ?_
  refine FW (a:=a.put u.bk u.bo h1) bd av sw fun aT v2 b bC fl' c_ cB=>?_
  intro dC
  refine aL AA (d' F D T @cK aZ.x aZ.a7) ?_
  refine bE i172 fun pO je=>?_
  refine aL OA (cc F D T @cK) ?_
  apply je
  refine a6 i172.eq_1 ?_
  intro _
  refine .all ?_
  intro gB
  apply aF
  refine a6 i287.eq_1 ?_
  intro _
  refine .all (J b bC fl' c_ _ _ _ f0 {f with done:=.bool true} _ I ⟨hM,nv,hz,⟨_,_,_,_,m',rfl,rfl⟩,⟨?_,?_⟩,rfl⟩ ?_ ?_)
  .exact eP (ji aZ.x jS.eq_1 kL.eq_1 k7.eq_1 e0 aZ.a7 aZ.bk aZ.bo aE.push.eq_1 aE.cX.eq_1)
  .exact hc
  .exact ho
  .exact nY
end
section
def iG(g:G)(kv:V)(ks:List V)(fl:List Nat):Prop:=
 (kv= .br/\ks=[]/\fl=[])\/∃b,kv= .slice b 0 ks.length ks.length 1/\0<ks.length/\fl=[b]/\g b=some (.al false ks)
theorem iG.b6{g g':G}{kv:V}{ks:List V}{fl:List Nat}(h:iG g kv ks fl)(aw:∀b∈fl,g' b=g b):iG g' kv ks fl:=by
 rcases h with h|⟨b,J,U,rfl,aK⟩
 .exact .inl h
 .exact .inr ⟨b,J,U,rfl,by rw[aw b aM];exact aK⟩
theorem iG.lt{g:G}{kv:V}{ks:List V}{fl:List Nat}{n:Nat}(h:iG g kv ks fl)(ap:bm g n):∀b∈fl,b<n:=by
 rcases h with⟨_,_,rfl⟩|⟨b,J,U,rfl,aK⟩
 .simp
 .intro x aj;simp only[List.mem_singleton]at aj;subst aj;exact ap _ _ aK
theorem iG.g6{g:G}{kv:V}{ks:List V}{fl:List Nat}(h:iG g kv ks fl):kv.cell=true/\kv.cells=[kv]/\kv.known=true/\V.same 40 kv kv=true/\kv.plain=true/\Go.Abs.oI kv=some (.int .i64 ks.length):=by
 rcases h with⟨rfl,rfl,_⟩|⟨b,rfl,U,rfl,aK⟩
 .exact⟨rfl,rfl,rfl,dW,rfl,rfl⟩
 .exact⟨rfl,rfl,rfl,dW,rfl,rfl⟩
section
variable{α:Type}{A:h3 α}{a:α}{K:cj α}{g:G}{n:Nat}
theorem xg{kv:V}{ks:List V}{fl:List Nat}(h:iG g kv ks fl)(aA:ks.length<100000)(af:ks.all V.cell=true)
 (ah:∀g' n' og fl',n<=n'->iG g' og ks fl'->(∀b∈fl',n<=b)->(∀b,b<n->g' b=g b)->K og g' n' a):aR A bA 32 [kv] g n a K:=by
 refine dO fun ap=>?_
 refine bE i32 fun N aF=>?_
 rcases h with⟨rfl,rfl,rfl⟩|⟨b,rfl,U,rfl,aK⟩
 .refine dl OX ?_
  apply aF
  refine a6 i32.eq_1 ?_
  exact fun az=>.all (ah _ _ _ [] az (.inl ⟨rfl,rfl,rfl⟩) aM fun _ _=>rfl)
 .have lb:=ap _ _ aK
  have c1:¬ks.length=0:=I
  have c2:¬ks.length<=0:=I
  have eu:ks.length<=1048576:=I
  have jH:List.take ks.length ks=ks:=List.take_length
  refine fG OX (bs fY.eq_1 aK c1 c2 eu jH af @Nat.le_refl @List.drop_nil.{0} @List.take_nil.{0} (dF lb) (cw (gS lb) (tG lb) (x1 lb))) ?_
  apply aF
  refine a6 i32.eq_1 ?_
  intro _
  refine .all (ah _ _ _ [n+1] I (.inr ⟨n+1,rfl,U,rfl,dW⟩) aM fun x aj=>?_)
  exact bc (aN (dF aj) (gS aj))
end
end
section
variable{g:G}{n:Nat}{a:aE}{K:cj aE}{p:ew}{fl:List Nat}{r hv:Nat}{v:jd}{f:bF}{L:List (Nat×bt)}
theorem aAV{k:Int}(aB:g p.aP=some (gn p a.an a.ar))(ap:bm g n)(hU:0<=k/\k<1000)
 (ah:∀g' n' r hv fl' cn iF,n<=n'->nA p a.an a.ar g' fl' r hv ⟨k,0,0,0,[],[],false,.draw⟩ cn iF->(∀b∈fl',n<=b)->(∀b,b<n->g' b=g b)->K (.ptr hv 0) g' n' a):
 aR ct bA 92 [.ptr p.aP 0,.int .i64 k] g n a K:=by
 have da:=ap _ _ aB
 have eV:=aB
 simp only[gn]at eV
 refine bE i92 fun N aF=>?_
 refine aL Pe (cw eV @cK (ag (I:p.aP<n))) ?_
 refine dO fun cf=>QD (f:=⟨.ptr p.aP 0,.int .i64 0,.int .u64 0,.br,.int .i64 0,.int .i64 0,.int .u64 0,.fZ,.bool false,.bool false,.int .i64 0,.br,.int .u64 0,.int .i64 0,.int .i64 0,.int .i64 0,.int .i64 0,.int .i64 0,.int .i64 0,.int .u64 0,.int .u64 0⟩) ?_ rfl ?_ cf I hU rfl rfl rfl fun ba aT dd c1 c2 t cB own Gj cQ=>?_
 .exact yn bF.l.eq_1
 .exact yn eV
 intro jz
 have kZ:ba (n+1)=some (.al false [.ptr n 0,.br,.br]):=by rw[cQ (n+1) I I];exact B'
 have CH:ba (n+2)=some (.al false [.ptr (n+1) 0]):=by rw[cQ _ I I];exact B'
 have ex:ba p.aP=some (gn p a.an a.ar):=by rw[cQ _ I I];exact yn eV
 have F:=own.at_
 simp only[h4,and_true]at F
 have sE:dd≠c1/\dd≠c2/\dd≠t/\c1≠c2/\c1≠t/\c2≠t:=by
  have:=own.de
  simp only[List.map,List.nodup_cons,List.mem_cons,List.not_mem_nil,or_false,not_or]at this
  omega
 refine aL Pe CH ?_
 apply aF
 refine a6 i92.eq_1 ?_
 intro _
 refine .all (ah _ _ n (n+1) _ ⟨.ptr p.aP 0,.int .i64 0,.int .u64 0,.br,.int .i64 0,.int .i64 0,.int .u64 0,.fn (.func 221) [] [.ptr dd 0,.ptr c1 0,.ptr c2 0],.bool false,.bool false,.int .i64 0,.br,.int .u64 0,.int .i64 0,.int .i64 k,.int .i64 0,.int .i64 0,.int .i64 0,.int .i64 0,.int .u64 0,.int .u64 0⟩ [(n+1,.al false [.ptr n 0,.br,.br]),(dd,.al false [.ptr t 0]),(c1,.al false [Ab (n+2)]),(c2,.al false [.ptr n 0]),(t,lc a.an p.R (bW k) 0 (.fn (.func 211) [.ptr t 0] [])),(n+2,.al false [.ptr (n+1) 0])] I ⟨?_,?_,⟨?_,?_⟩,rfl⟩ ?_ fun b ad=>?_)
 .constructor<;>rfl
 .exact⟨dd,c1,c2,t,n+2,rfl,rfl,rfl,rfl⟩
 .simp only[h4,and_true]
  exact⟨ex,F.1,kZ,F.2.1,F.2.2.1,F.2.2.2.1,F.2.2.2.2,CH⟩
 .exact Ij
 .intro b ad
  simp only[List.map,List.mem_cons,List.not_mem_nil,or_false]at ad
  omega
 .rw[cQ b I I]
  exact B'
theorem Ao.yf{kv aW:V}{ks es:List Int}{jt:List (Nat×bt)}(h:Ao kv aW ks es jt)(aw:∀q∈jt,g q.1=some q.2):∃fl,iG g kv (words ks) fl:=by
 rcases h with⟨rfl,rfl,rfl,rfl,rfl⟩|⟨b,c,rfl,rfl,J,U,rfl⟩
 .exact⟨[],.inl ⟨rfl,rfl,rfl⟩⟩
 .exact⟨[b],.inr ⟨b,by rw[iS],by rw[iS];exact J,rfl,aw (b,.al false (words ks)) aM⟩⟩
theorem NO(l:List Int):(words l).all V.cell=true:=by simp[words,V.cell]
theorem az4(hu:v.aY= .done)(h:nA p a.an a.ar g fl r hv v f L)(aA:v.keys.length<100000)
 (ah:∀g' n' og fl',n<=n'->iG g' og (words v.keys) fl'->(∀b∈fl',n<=b)->(∀b,b<n->g' b=g b)->K og g' n' a):aR ct bA 94 [.ptr hv 0] g n a K:=by
 obtain⟨aZ,dG,own,rfl⟩:=h
 simp only[rs,hu]at dG
 obtain⟨kv,aW,jt,jy,rfl⟩:=dG
 have F:=own.at_
 simp only[List.forall_mem_cons]at F
 obtain⟨_,rM⟩:=jy.yf (g:=g) F.2.2.2
 have rP:=rM.g6
 refine bE i94 fun N aF=>?_
 refine aL Pf (cw F.2.2.1 rP.2.2.2.1 rP.2.1) ?_
 refine xg rM (by rw[iS];exact aA) (NO _) fun g' n' og fl' az zl cE aw=>?_
 intro cf
 refine dl (aN aey.eq_1 Pf) ?_
 apply aF
 refine a6 i94.eq_1 ?_
 exact fun _=>.all (ah _ _ _ _ I zl (fun b ad=>by have:=cE b ad;omega) fun b ad=>aw b I)
end
section
variable{g:G}{n:Nat}{a:aE}{K:cj aE}{p:ew}{fl:List Nat}{r hv:Nat}{v:jd}{f:bF}{L:List (Nat×bt)}
theorem aA5{i:Nat}(hu:v.aY= .done)(h:nA p a.an a.ar g fl r hv v f L)(ap:bm g n)(aC:i<v.keys.length)(aA:v.keys.length<100000)(bB:∀j,j<i->v.gH[j]? =some 0)(ak:0<=v.room/\v.room<1000){c:Int}(af:v.gH[i]? =some c)
 (ah:∀g' n' fl' k cn iF,n<=n'->ou p a.an a.ar g' fl' r hv k ⟨p.R,bW v.room+2,c,0,v,false,.start i⟩ f cn iF->(∀b∈fl',b∈fl\/n<=b)->(∀b,b<n->g' b=g b)->K (.ptr k 0) g' n' a):aR ct bA 98 [.ptr hv 0,.int .i64 i] g n a K:=by
 have a5:=h
 obtain⟨aZ,dG,own,rfl⟩:=h
 simp only[rs,hu]at dG
 obtain⟨kv,aW,jt,jy,rfl⟩:=dG
 have m':=jy
 rcases jy with⟨rfl,rfl,g3,j0,rfl⟩|⟨gh,eE,rfl,rfl,e0,g8,rfl⟩
 .rw[g3]at aC;simp at aC
 have aH:f.done= .bool true:=by rw[aZ.done,hu];rfl
 refine iU fun F D T=>?_
 have cV:r<n:=by simp only[T]
 have kM:hv<n:=by simp only[T]
 have da:p.aP<n:=by simp only[T]
 have aLi:gh<n:=by simp only[T]
 have aLh:eE<n:=by simp only[T]
 have c1:(0:Int)<=(i:Int):=I
 have c2:(i:Int)< (v.keys.length:Int):=I
 have eu:(ints v.gH)[i]? =some (.int .i64 c):=by simp[ints,af]
 refine bE i98 fun N aF=>?_
 refine aL Cq (jO F D T @cK (ag (I:r<n)) (ag (I:hv<n)) (ag (I:gh<n)) (ag (I:eE<n)) (ag (I:p.aP<n))) ?_
 refine bE i165 fun pO je=>?_
 refine aL aum (bs F D T @cK aZ.x aZ.room c1 c2 eu @Int.toNat_natCast (ag (I:r<n)) (kw (ag (I:hv<n)) (ag (I:gh<n)) (ag (I:eE<n)) (ag (I:p.aP<n)) (ag (I:n<n+2)) (ag (I:n+1<n+2)) (ag (I:r<n+2)) (ag (I:hv<n+2)) (ag (I:gh<n+2)) (ag (I:eE<n+2)) (ag (I:p.aP<n+2)))) ?_
 apply je
 refine a6 i165.eq_1 ?_
 intro _
 refine .all ?_
 intro dC
 refine aL (aN aeA.eq_1 Cq) (bs F D T @cK aZ.x aZ.room (ag (I:r<n)) (ag (I:hv<n)) (ag (I:gh<n)) (ag (I:eE<n)) (ag (I:p.aP<n)) (gq (ag (I:n<n+2)) (ag (I:n+1<n+2)) (ag (I:r<n+2)) (ag (I:hv<n+2)) (ag (I:gh<n+2)) (ag (I:eE<n+2)) (ag (I:p.aP<n+2)))) ?_
 refine dO fun cf=>Ks (p:=p) ?_ cf ak fun n' az=>?_
 .exact eP (pM (I:p.aP<n+2))
 intro gB
 have aa:q9 1 (V.slice eE 0 v.keys.length v.keys.length 1) none (some (V.int .i64 i))=some (.slice eE 0 i v.keys.length 1):=by
  have ad:ix v.keys.length (some (V.int .i64 i))=some i:=by simp[ix]
  have vI:ix 0 none=some 0:=rfl
  simp only[q9,ad,vI]
  rw[if_pos ⟨I,I,trivial⟩]
  simp
 refine aL (aN aeB.eq_1 Cq) (bs F D T @cK aZ.x aZ.room aa (ag (I:r<n)) (ag (I:hv<n)) (ag (I:gh<n)) (ag (I:eE<n)) (e_ (ag (I:p.aP<n)) (ag (I:n<n+2)) (ag (I:n+1<n+2)) (ag (I:r<n+2)) (ag (I:hv<n+2)) (ag (I:gh<n+2)) (ag (I:eE<n+2)) (ag (I:p.aP<n+2)))) ?_
 refine qp (fun eX t ba aT b7=>∃j,eX=i-j/\j<=i/\aT=_/\b7=a/\ba=_/\aW t (.t 2)= .ptr n 0/\aW t (.t 3)= .ptr (n+1) 0/\aW t (.t 5)= .ptr (n+26) 0/\aW t (.t 28)= .slice eE 0 i v.keys.length 1/\aW t (.t 29)= .int .i64 i/\aW t (.t 30)= .int .i64 j) i ⟨0,I,I,rfl,rfl,rfl,dW,dW,dW,dW,dW,bD @Int.natCast_zero⟩ ?_
 rintro eX t ba aT b7 ⟨j,rfl,ax,rfl,rfl,rfl,aJ,bP,iX,Qs,Qt,Qu⟩
 by_cases jz:j<i
 .have d1:(j:Int)< (i:Int):=I
  have d0:(0:Int)<=(j:Int):=I
  have dA:IntKind.wrap .i64 ((j:Int)+1)=((j+1:Nat):Int):=by rw[wrap_i64 I I];omega
  have m1:(ints v.gH)[j]? =some (.int .i64 0):=by simp[ints,bB j jz]
  refine aL Cq (bs F D T @cK aJ bP iX Qs Qt Qu d1 (bs d0 dA m1 @Int.toNat_natCast @Int.lt_irrefl (ag (I:r<n)) (ag (I:hv<n)) (ag (I:gh<n)) (ag (I:eE<n)) (ag (I:p.aP<n)) (ag (I:n<n+2)) (d' (ag (I:n+1<n+2)) (ag (I:r<n+2)) (ag (I:hv<n+2)) (ag (I:gh<n+2)) (ag (I:eE<n+2)) (ag (I:p.aP<n+2))))) ?_
  exact⟨i- (j+1),I,j+1,rfl,I,rfl⟩
 .have KH:j=i:=I
  subst KH
  refine aL Cq (bs F D T @cK aJ bP iX Qs Qt Qu @Int.lt_irrefl (bs (ag (I:r<n)) (ag (I:hv<n)) (ag (I:gh<n)) (ag (I:eE<n)) (ag (I:p.aP<n)) (ag (I:n<n+2)) (ag (I:n+1<n+2)) (ag (I:r<n+2)) (ag (I:hv<n+2)) (ag (I:gh<n+2)) (ag (I:eE<n+2)) (ag (I:p.aP<n+2)))) ?_
  apply aF
  refine a6 i98.eq_1 ?_
  intro _
  refine .all (ah _ _ _ (n+24) ⟨.ptr p.aP 0,.int .i64 0,.int .u64 0,.br,.int .i64 0,.int .i64 0,.int .u64 0,.fn (.func 170) [] [.ptr n 0,.ptr (n+1) 0,.ptr (n+26) 0],.bool false,.bool false,.int .i64 0,.br,.int .u64 0,.int .i64 0,.int .i64 v.room,.int .i64 p.R,.int .i64 (bW v.room+2),.int .i64 c,.int .i64 0,.int .u64 0,.int .u64 0⟩ _ I ⟨aZ,hu,by constructor<;>rfl,⟨_,_,_,_,.inr ⟨gh,eE,rfl,rfl,e0,g8,rfl⟩,⟨n,n+1,n+26,rfl,rfl⟩,rfl⟩,⟨?_,?_⟩,rfl⟩ ?_ ?_)
  .exact eP (bs aZ.x aZ.room bF.l.eq_1 e0 (ag (I:r<n)) (ag (I:hv<n)) (ag (I:gh<n)) (ag (I:eE<n)) (ag (I:p.aP<n)) (ag (I:n<n+2)) (ag (I:n+1<n+2)) (eW (ag (I:r<n+2)) (ag (I:hv<n+2)) (ag (I:gh<n+2)) (ag (I:eE<n+2)) (ag (I:p.aP<n+2))))
  .exact hc
  .exact ho
  .intro b ad
   exact bc (aN (ag (I:b<n)) (ag (I:b<n+2)))
structure ue(p:ew)(an ar:Nat)(g:G)(fl:List Nat)(k:Nat)(room:Int)(bH cJ:Bool)(f:bF):Prop where
 x:f.x= .ptr p.aP 0
 bH:f.effect= .bool bH
 done:f.done= .bool cJ
 room:f.room= .int .i64 room
 next:f.next= .fn (.func 173) [.ptr k 0] []
 own:Own g [(p.aP,gn p an ar),(k,.al false f.l)]
 fl:fl=[k]
theorem aAg(h:nA p a.an a.ar g fl r hv v f L)(hu:v.aY= .done)(ap:bm g n)
 (ah:∀g' n' k cn,n<=n'->ue p a.an a.ar g' [k] k v.room false false cn->n<=k->(∀b,b<n->g' b=g b)->K (.ptr k 0) g' n' a):aR ct bA 100 [.ptr hv 0] g n a K:=by
 obtain⟨aZ,dG,own,rfl⟩:=h
 simp only[rs,hu]at dG
 obtain⟨kv,aW,jt,jy,rfl⟩:=dG
 have F:=own.at_
 simp only[List.forall_mem_cons,gn]at F
 have da:=ap _ _ F.1
 have tv:=ap _ _ F.2.1
 have qf:=ap _ _ F.2.2.1
 refine bE i100 fun N aF=>?_
 refine aL aug (e_ F.2.1 F.2.2.1 @cK aZ.x aZ.room (ag (I:r<n)) (ag (I:hv<n)) (ag (I:p.aP<n))) ?_
 apply aF
 refine a6 i100.eq_1 ?_
 intro _
 refine .all (ah _ _ _ ⟨.ptr p.aP 0,.int .i64 0,.int .u64 0,.br,.int .i64 0,.int .i64 0,.int .u64 0,.fn (.func 173) [.ptr (n+15) 0] [],.bool false,.bool false,.int .i64 0,.br,.int .u64 0,.int .i64 0,.int .i64 v.room,.int .i64 0,.int .i64 0,.int .i64 0,.int .i64 0,.int .u64 0,.int .u64 0⟩ I ⟨rfl,rfl,rfl,rfl,rfl,⟨?_,?_⟩,rfl⟩ I fun b ad=>?_)
 .exact yn (cw F.1 bF.l.eq_1 (ag (I:p.aP<n)))
 .exact Ij
 .exact bc (ag (I:b<n))
theorem aDl{k:Nat}{room:Int}{bH:Bool}(h:ue p a.an a.ar g fl k room bH false f)(ap:bm g n){w:Int}(ak:0<=room/\room<1000)(hw:a.at_ p.R (bW room+1) w)
 (J:∀g' n' cn,n<=n'->ue p a.an a.ar g' fl k room bH true cn->(∀b,b<n->b≠k->g' b=g b)->K (.bN []) g' n' (a.put p.R (bW room+1) (fy w 18446744073709551615 1))):
 aR ct bA 173 ([.ptr k 0]++[]++[]) g n a K:=by
 obtain⟨aj,he,aH,ha,jh,own,rfl⟩:=h
 have aLH:=k
 refine iU fun F D T=>?_
 have cd:k<n:=by simp only[T]
 refine bE i173 fun N aF=>?_
 refine aL Au (d' F D T @cK aj ha) ?_
 refine LJ ak fun n' az=>?_
 intro dm
 refine aL (aN Mt.eq_1 Au) (d' F D T @cK aj ha) ?_
 refine Jx (by simp only[bW];omega) hw fun aT cB=>?_
 intro jz
 refine aL Au (d' F D T @cK aj ha) ?_
 apply aF
 refine a6 i173.eq_1 ?_
 intro _
 refine .all (J _ aT {f with done:=.bool true} I ⟨aj,he,rfl,ha,jh,⟨?_,?_⟩,rfl⟩ ?_)
 .exact eP (aN aj ha)
 .exact hc
 .intro b ad bI
  have c4:(k=b)=False:=eq_false fun e=>bI e.symm
  exact bc (cw c4 (dF ad) (gS ad))
theorem aAT{k aO:Nat}{w:Int}(aV:g k=some (.al false f.l))(a5:f.hl= .int .i64 0)(J:f.gJ= .slice aO 0 1 1 1)(U:f.fV= .int .u64 0)(aq:f.fW= .int .i64 0)(ad:g aO=some (.al false [.int .u64 w]))
 (ah:∀g' n' b',n<=b'->g' b'=some (.al false [.int .u64 w])->(∀b,b<n->g' b=g b)->K (.agg [.int .i64 0,.slice b' 0 1 1 1,.int .u64 0,.int .i64 0]) g' n' a):aR ct bA 391 [.ptr k 0] g n a K:=by
 refine dO fun ap=>?_
 have cd:=ap _ _ aV
 have cV:=ap _ _ ad
 have aAS:List.take 4 (List.drop 10 f.l)=[.int .i64 0,.slice aO 0 1 1 1,.int .u64 0,.int .i64 0]:=by
  have:List.take 4 (List.drop 10 f.l)=[f.hl,f.gJ,f.fV,f.fW]:=rfl
  rw[this,a5,J,U,aq]
 have jN:f.l.length=21:=rfl
 have ayt:f.l[11]? =some (.slice aO 0 1 1 1):=by rw[<-J];rfl
 refine bE i391 fun N aF=>?_
 refine aL O9 (bs aV aAS ayt jN a5 J U aq ad @cK (ag (I:k<n)) (ag (I:aO<n))) ?_
 refine xg (ks:=[.int .u64 w]) (fl:=[aO]) (.inr ⟨aO,rfl,aM,rfl,?_⟩) aM rfl fun g' n' og fl' az zl cE aw=>?_
 .exact bc (aN ad (ag (I:aO<n)))
 intro cf
 rcases zl with⟨_,bd,_⟩|⟨b',rfl,_,rfl,eN⟩
 .simp at bd
 have xU:n+2<=b':=cE b' aM
 have vg:g' n=some (.al false [.int .i64 0,.br,.int .u64 0,.int .i64 0]):=by rw[aw n I];exact dX
 have rl:g' (n+1)=some (.al false [.int .i64 0,.slice aO 0 1 1 1,.int .u64 0,.int .i64 0]):=by rw[aw (n+1) I];exact dX
 refine aL (aN ad'.eq_1 O9) (cw vg rl @List.length_singleton.{0}) ?_
 have aCM:=cf _ _ eN
 apply aF
 refine a6 i391.eq_1 ?_
 intro _
 refine .all (ah _ _ b' I ?_ fun b ad=>?_)
 .exact bc (cw eN (ag (I:n<b')) (ag (I:n+1<b')))
 .exact bc (aN (aw b I) (ag (I:b<n)))
end
