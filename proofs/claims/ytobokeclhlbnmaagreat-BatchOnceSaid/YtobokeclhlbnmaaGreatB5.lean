/- Part of the proof of BatchOnce, for every input. -/
import Derived.Test.YtobokeclhlbnmaaGreatB4
set_option linter.all false
namespace Go.Proofs.Run
open Go Go.Abs
attribute [local irreducible] b9 cI cr cg aR
set_option maxRecDepth 100000
set_option maxHeartbeats 4000000
section
variable{g:G}{n:Nat}{a:aE}{K:cj aE}{p:ew}{fl:List Nat}{r:Nat}{u:gD}{f:bF}{L:List (Nat×bt)}
theorem ay_{key val:Int}{ch:Nat}(aB:g p.aP=some (gn p a.an a.ar))(ap:bm g n)(hv:g ch=some (.al false [.int .u64 val]))(cy:1<=p.B/\p.B<1000)
 (ah:∀g' n' r fl' cn iF k,n<=n'->0<=k/\k<p.B->kW p a.an a.ar g' fl' r ⟨key,val,k,0,0,0,0,0,0,false,.draw⟩ cn iF->(∀b∈fl',n<=b)->(∀b,b<n->g' b=g b)->K (.ptr r 0) g' n' a):
 aR ct bA 89 [.ptr p.aP 0,.agg [.int .i64 2,.int .u64 key,.slice ch 0 1 1 1,.int .i64 0,.int .i64 0]] g n a K:=by
 have cF:=ap _ _ hv
 have da:=ap _ _ aB
 have eV:=aB
 simp only[gn]at eV
 refine bE i89 fun N aF=>?_
 refine aL IY (eW eV hv @cK (ag (I:p.aP<n)) (ag (I:ch<n))) ?_
 refine avE cy fun n' k az hU=>?_
 intro dm
 refine aL (aN aew.eq_1 IY) (eW eV hv @cK (ag (I:p.aP<n)) (ag (I:ch<n))) ?_
 refine dO fun cf=>QD (f:=⟨.ptr p.aP 0,.int .i64 2,.int .u64 key,.br,.int .i64 0,.int .i64 0,.int .u64 val,.fZ,.bool false,.bool false,.int .i64 0,.br,.int .u64 0,.int .i64 0,.int .i64 0,.int .i64 0,.int .i64 0,.int .i64 0,.int .i64 0,.int .u64 0,.int .u64 0⟩) ?_ rfl ?_ cf I I rfl rfl rfl fun ba aT dd c1 c2 t cB own Gj cQ=>?_
 .exact yn bF.l.eq_1
 .exact yn eV
 intro jz
 have kZ:ba n=some (uZ ⟨key,val,k,0,0,0,0,0,0,false,.draw⟩ (.slice ch 0 1 1 1)):=by rw[cQ n I I];exact B'
 have CH:ba (n+2)=some (.al false [.ptr (n+1) 0]):=by rw[cQ _ I I];exact B'
 have ex:ba p.aP=some (gn p a.an a.ar):=by rw[cQ _ I I];exact yn eV
 have F:=own.at_
 simp only[h4,and_true]at F
 have sE:dd≠c1/\dd≠c2/\dd≠t/\c1≠c2/\c1≠t/\c2≠t:=by
  have:=own.de
  simp only[List.map,List.nodup_cons,List.mem_cons,List.not_mem_nil,or_false,not_or]at this
  omega
 refine aL IY CH ?_
 apply aF
 refine a6 i89.eq_1 ?_
 intro _
 refine .all (ah _ _ (n+1) _ ⟨.ptr p.aP 0,.int .i64 2,.int .u64 key,.br,.int .i64 0,.int .i64 0,.int .u64 val,.fn (.func 221) [] [.ptr dd 0,.ptr c1 0,.ptr c2 0],.bool false,.bool false,.int .i64 0,.br,.int .u64 0,.int .i64 0,.int .i64 k,.int .i64 0,.int .i64 0,.int .i64 0,.int .i64 0,.int .u64 0,.int .u64 0⟩ [(dd,.al false [.ptr t 0]),(c1,.al false [wR (n+2) n]),(c2,.al false [.ptr (n+1) 0]),(t,lc a.an p.R (bW k) 0 (.fn (.func 211) [.ptr t 0] [])),(n+2,.al false [.ptr (n+1) 0]),(n,uZ ⟨key,val,k,0,0,0,0,0,0,false,.draw⟩ (.slice ch 0 1 1 1))] k I hU ⟨?_,?_,⟨?_,?_⟩,rfl⟩ ?_ fun b ad=>?_)
 .constructor<;>rfl
 .exact⟨dd,c1,c2,t,n+2,n,.slice ch 0 1 1 1,rfl,rfl⟩
 .simp only[h4,and_true]
  exact⟨ex,F.1,F.2.1,F.2.2.1,F.2.2.2.1,F.2.2.2.2,CH,kZ⟩
 .exact Ij
 .intro b ad
  simp only[List.map,List.mem_cons,List.not_mem_nil,or_false]at ad
  omega
 .rw[cQ b I I]
  exact B'
theorem GD{id:FuncId}{first cap:List V}(aV:g r=some (.al false f.l))(aH:f.done= .bool false)(az:f.next= .fn (.func id) first cap)
 (af:aR ct bA id (first++[]++cap) (a1 g r (.al false {f with effect:=.bool false}.l)) n a (fun _ g' n' a'=>∃(cn:bF) (e d:Bool),g' r=some (.al false cn.l)/\cn.effect= .bool e/\cn.done= .bool d/\∀aT,n'<=aT->K (.bN [.bool e,.bool d]) g' aT a')):aR ct bA 93 [.ptr r 0] g n a K:=by
 simp only[az,aH,List.append_nil]at af
 refine bE i93 fun N aF=>?_
 refine aL IZ (cc aV aH az @cK) ?_
 refine aR.mono af fun v g' n' a' hle ah cf=>?_
 obtain⟨cn,e,d,y7,he,jZ,ah⟩:=ah
 refine aL IZ (cc y7 he jZ @cK) ?_
 apply aF
 refine a6 i93.eq_1 ?_
 exact fun _=>.all (ah _ I)
theorem aK8(aV:g r=some (.al false f.l))(aH:f.done= .bool true)(ah:∀n',n<=n'->K (.bN [.bool false,.bool true]) g n' a):aR ct bA 93 [.ptr r 0] g n a K:=by
 refine bE i93 fun N aF=>?_
 refine aL IZ (cw aV aH @cK) ?_
 apply aF
 refine a6 i93.eq_1 ?_
 exact fun az=>.all (ah _ az)
end
section
inductive yx where
 |draw
 |wait (bK:Int)
 |go
 |load
 |ask
 |done
def yx.hL:yx->Bool
 | .done=>true
 |_=>false
structure jd where
 room:Int
 bk:Int
 bo:Int
 a7:Int
 keys:List Int
 gH:List Int
 bH:Bool
 aY:yx
structure Oe(p:ew)(v:jd)(f:bF):Prop where
 x:f.x= .ptr p.aP 0
 bH:f.effect= .bool v.bH
 done:f.done= .bool v.aY.hL
 room:f.room= .int .i64 v.room
def ints(l:List Int):List V:=l.map (V.int .i64)
def Ao(kv aW:V)(ks es:List Int)(L:List (Nat×bt)):Prop:=
 (kv= .br/\aW= .br/\ks=[]/\es=[]/\L=[])\/
 ∃b c,kv= .slice b 0 ks.length ks.length 1/\aW= .slice c 0 ks.length ks.length 1/\0<ks.length/\es.length=ks.length/\L=[(b,.al false (words ks)),(c,.al false (ints es))]
def Ab(cP:Nat):V:=.fn (.func 163) [] [.ptr cP 0]
def jS(gr fX gj:Nat):V:=.fn (.func 230) [] [.ptr gr 0,.ptr fX 0,.ptr gj 0]
def r4(gr oS fX gj:Nat):V:=.fn (.func 231) [] [.ptr gr 0,.ptr oS 0,.ptr fX 0,.ptr gj 0]
def rs(p:ew)(an r hv:Nat)(v:jd)(nx:V)(L:List (Nat×bt)):Prop:=
 match v.aY with
 | .draw=>∃dd c1 c2 t cP,nx= .fn (.func 221) [] [.ptr dd 0,.ptr c1 0,.ptr c2 0]/\v.keys=[]/\v.gH=[]/\L=[(hv,.al false [.ptr r 0,.br,.br]),(dd,.al false [.ptr t 0]),(c1,.al false [Ab cP]),(c2,.al false [.ptr r 0]),(t,lc an p.R (bW v.room) 0 (.fn (.func 211) [.ptr t 0] [])),(cP,.al false [.ptr hv 0])]
 | .wait bK=>∃dd c1 c2 t cP,nx= .fn (.func 221) [] [.ptr dd 0,.ptr c1 0,.ptr c2 0]/\v.keys=[]/\v.gH=[]/\L=[(hv,.al false [.ptr r 0,.br,.br]),(dd,.al false [.ptr t 0]),(c1,.al false [Ab cP]),(c2,.al false [.ptr r 0]),(t,lc an p.R (bW v.room) bK (.fn (.func 265) [.ptr t 0] [])),(cP,.al false [.ptr hv 0])]
 | .go=>∃cP,nx=Ab cP/\v.keys=[]/\v.gH=[]/\L=[(hv,.al false [.ptr r 0,.br,.br]),(cP,.al false [.ptr hv 0])]
 | .load=>∃gr fX gj kv aW jt,nx=jS gr fX gj/\Ao kv aW v.keys v.gH jt/\L=(hv,.al false [.ptr r 0,kv,aW])::(gr,.al false [.ptr hv 0])::(fX,.al false [.int .i64 v.bk,.int .i64 v.bo])::(gj,.al false [jS gr fX gj])::jt
 | .ask=>∃gr fX gj oS kv aW jt,nx=r4 gr oS fX gj/\Ao kv aW v.keys v.gH jt/\L=(hv,.al false [.ptr r 0,kv,aW])::(gr,.al false [.ptr hv 0])::(fX,.al false [.int .i64 v.bk,.int .i64 v.bo])::(gj,.al false [jS gr fX gj])::(oS,.al false [.int .u64 v.a7])::jt
 | .done=>∃kv aW jt,Ao kv aW v.keys v.gH jt/\L=(hv,.al false [.ptr r 0,kv,aW])::jt
structure nA(p:ew)(an ar:Nat)(g:G)(fl:List Nat)(r hv:Nat)(v:jd)(f:bF)(L:List (Nat×bt)):Prop where
 aZ:Oe p v f
 dG:rs p an r hv v f.next L
 own:Own g ((p.aP,gn p an ar)::(r,.al false f.l)::L)
 fl:fl=r::L.map (·.1)
variable{g:G}{n:Nat}{a:aE}{K:cj aE}{p:ew}{fl:List Nat}{r hv:Nat}{v:jd}{f:bF}{L:List (Nat×bt)}
def pS(p:ew)(g:G)(n:Nat)(fl:List Nat)(r hv:Nat)(K:cj aE)(v:jd)(a:aE):Prop:=
 ∀g' n' fl' cn iF,n<=n'->nA p a.an a.ar g' fl' r hv v cn iF->(∀b∈fl',b∈fl\/n<=b)->(∀b,b<n->b∉fl->g' b=g b)->K (.bN []) g' n' a
theorem aIR(hu:v.aY= .draw)(h:nA p a.an a.ar g fl r hv v f L)(ap:bm g n){w:Int}(hw:a.at_ p.R (bW v.room) w)
 (J:pS p g n fl r hv K {v with aY:=.wait w} (a.put p.R (bW v.room) (fy w 18446744073709551615 1))):
 eG f.next [] g n a K:=by
 have a5:=h
 obtain⟨aZ,dG,own,rfl⟩:=h
 simp only[rs,hu]at dG
 obtain⟨dd,c1,c2,t,cP,ga,g3,j0,rfl⟩:=dG
 refine⟨_,_,_,ga,?_⟩
 have aH:f.done= .bool false:=by rw[aZ.done,hu];rfl
 refine iU fun F D T=>?_
 have bg:g t=some (lc a.an p.R (bW v.room) 0 (.fn (.func 211) [.ptr t 0] [])):=by simp only[F]
 refine bE i221 fun N aF=>?_
 refine aL uh (cw F D T) ?_
 refine BZ bg (Jw ap bg hw fun g' n' az sy aw=>?_)
 intro dm
 have E:=gW aw [dd,c1,c2,r,cP,hv,p.aP] ua
 simp only[h4,and_true]at E
 refine dl uh ?_
 apply aF
 refine a6 i221.eq_1 ?_
 intro _
 refine .all (J _ n' _ f _ az ⟨hz,⟨dd,c1,c2,t,cP,ga,g3,j0,rfl⟩,⟨?_,?_⟩,rfl⟩ ?_ ?_)
 .exact eP (cw E sy Ab.eq_1)
 .exact hc
 .exact ho
 .exact Ik aw
theorem aIT{bK:Int}(hu:v.aY= .wait bK)(h:nA p a.an a.ar g fl r hv v f L)(ap:bm g n){w:Int}(ak:0<=v.room/\v.room<1000)(hw:a.at_ p.R (bW v.room+1) w)
 (J:w≠bK->pS p g n fl r hv K v a.tick) (U:w=bK->pS p g n fl r hv K {v with aY:=.go} a.tick):
 eG f.next [] g n a K:=by
 have a5:=h
 obtain⟨aZ,dG,own,rfl⟩:=h
 simp only[rs,hu]at dG
 obtain⟨dd,c1,c2,t,cP,ga,g3,j0,rfl⟩:=dG
 refine⟨_,_,_,ga,?_⟩
 have aH:f.done= .bool false:=by rw[aZ.done,hu];rfl
 refine iU fun F D T=>?_
 have bg:g t=some (lc a.an p.R (bW v.room) bK (.fn (.func 265) [.ptr t 0] [])):=by simp only[F]
 refine bE i221 fun N aF=>?_
 refine aL uh (cw F D T) ?_
 refine BZ bg (NL ap bg (by simp only[bW];omega) hw (fun bp n' az=>?_) fun he g' n' az sy aw=>?_)
 .intro dm
  refine dl uh ?_
  apply aF
  refine a6 i221.eq_1 ?_
  exact fun _=>.all (J bp g n' _ f _ az a5 (fun b ad=>.inl ad) fun b _ _=>rfl)
 .intro dm
  have E:=gW aw [dd,c1,c2,r,cP,hv,p.aP] ua
  simp only[h4,and_true]at E
  refine aL uh (eW E F D T @cK) ?_
  apply aF
  refine a6 i221.eq_1 ?_
  intro _
  refine .all (U he _ n' _ {f with next:=Ab cP} _ az ⟨hz,⟨cP,rfl,g3,j0,rfl⟩,⟨?_,?_⟩,rfl⟩ ?_ ?_)
  .exact eP (aN E Ab.eq_1)
  .exact hc
  .exact ho
  .exact Ik aw
end
section
variable{g:G}{n:Nat}{a:aE}{K:cj aE}{p:ew}{fl:List Nat}{r hv:Nat}{v:jd}{f:bF}{L:List (Nat×bt)}
theorem asK(hu:v.aY= .load)(h:nA p a.an a.ar g fl r hv v f L)(ap:bm g n){w:Int}(hw:a.at_ v.bk v.bo w)
 (J:w=0->pS p g n fl r hv K {v with bH:=true,aY:=.done} a.tick) (U:w≠0->pS p g n fl r hv K {v with a7:=w,aY:=.ask} a.tick):
 eG f.next [] g n a K:=by
 have a5:=h
 obtain⟨aZ,dG,own,rfl⟩:=h
 simp only[rs,hu]at dG
 obtain⟨gr,fX,gj,kv,aW,jt,ga,jy,rfl⟩:=dG
 refine⟨_,_,_,ga,?_⟩
 have aH:f.done= .bool false:=by rw[aZ.done,hu];rfl
 have m':=jy
 rcases jy with⟨rfl,rfl,g3,j0,rfl⟩|⟨gh,eE,rfl,rfl,e0,g8,rfl⟩
 .refine iU fun F D T=>?_
  have cV:r<n:=by simp only[T]
  have kM:hv<n:=by simp only[T]
  have rS:gr<n:=by simp only[T]
  have da:p.aP<n:=by simp only[T]
  have tv:fX<n:=by simp only[T]
  have qf:gj<n:=by simp only[T]
  refine bE i230 fun N aF=>?_
  refine aL w8 (kw F D T @cK aZ.x (ag (I:r<n)) (ag (I:hv<n)) (ag (I:gr<n)) (ag (I:fX<n)) (ag (I:gj<n)) (ag (I:p.aP<n))) ?_
  refine rT hw fun n' az=>?_
  intro dm
  by_cases bB:w=0
  .refine aL (aN Er.eq_1 w8) (bs F D T @cK aZ.x bB (ag (I:r<n)) (ag (I:hv<n)) (ag (I:gr<n)) (ag (I:fX<n)) (ag (I:gj<n)) (ag (I:p.aP<n))) ?_
   refine dO fun cf=>AO (f:=f) ?_ cf ⟨rfl,rfl⟩ ⟨rfl,rfl⟩ ⟨rfl,rfl⟩ ⟨rfl,rfl⟩ fun ba aT cB fQ cQ=>?_
   .exact NS
   intro jz
   have E:=gW (fun b ad h=>cQ b I h) [gr,hv,p.aP] (n:=n) ua
   simp only[h4,and_true]at E
   have sY:ba gr=some (.al false [.ptr hv 0]):=by rw[E.1];exact eP (aN (pM (I:gr<n)) (ag (I:gr<n)))
   have vh:ba hv=some (.al false [.ptr r 0,.br,.br]):=by rw[E.2.1];exact eP (ag (I:hv<n))
   refine aL w8 (gq sY vh fQ F D T @cK) ?_
   apply aF
   refine a6 i230.eq_1 ?_
   intro _
   refine .all (J bB _ _ _ {f with hl:=.int .i64 0,gJ:=.br,fV:=.int .u64 0,fW:=.int .i64 0,effect:=.bool true,done:=.bool true} _ I ⟨hz,⟨_,_,_,m',rfl⟩,⟨?_,?_⟩,rfl⟩ ?_ ?_)
   .exact eP (gq E vh fQ g3 j0 (ag (I:hv<n)) (ag (I:p.aP<n)))
   .exact hc
   .exact ho
   .intro b ad bI
    have c4:=zN bI
    simp only[h4,and_true,List.map]at c4
    exact bc (cw c4 (cQ b I (fun e=>bI (by rw[e];simp))) (ag (I:b<n)))
  .have Ln:(w==0)=false:=by simpa using bB
   refine aL (aN Er.eq_1 w8) (bs F D T @cK aZ.x bB Ln (ag (I:r<n)) (ag (I:hv<n)) (ag (I:gr<n)) (ag (I:fX<n)) (aN (ag (I:gj<n)) (ag (I:p.aP<n)))) ?_
   apply aF
   refine a6 i230.eq_1 ?_
   intro _
   refine .all (U bB _ _ _ {f with next:=r4 gr (n+18) fX gj} _ I ⟨hz,⟨gr,fX,gj,n+18,_,_,_,rfl,m',rfl⟩,⟨?_,?_⟩,rfl⟩ ?_ ?_)
   .exact eP (kw aZ.x (ag (I:hv<n)) (ag (I:p.aP<n)) (ag (I:r<n)) (ag (I:gr<n)) (ag (I:fX<n)) (ag (I:gj<n)) jS.eq_1 r4.eq_1 g3 j0)
   .exact hc
   .exact ho
   .exact wU n
 .refine iU fun F D T=>?_
  have cV:r<n:=by simp only[T]
  have kM:hv<n:=by simp only[T]
  have rS:gr<n:=by simp only[T]
  have da:p.aP<n:=by simp only[T]
  have tv:fX<n:=by simp only[T]
  have qf:gj<n:=by simp only[T]
  refine bE i230 fun N aF=>?_
  refine aL w8 (kw F D T @cK aZ.x (ag (I:r<n)) (ag (I:hv<n)) (ag (I:gr<n)) (ag (I:fX<n)) (ag (I:gj<n)) (ag (I:p.aP<n))) ?_
  refine rT hw fun n' az=>?_
  intro dm
  by_cases bB:w=0
  .refine aL (aN Er.eq_1 w8) (bs F D T @cK aZ.x bB (ag (I:r<n)) (ag (I:hv<n)) (ag (I:gr<n)) (ag (I:fX<n)) (ag (I:gj<n)) (ag (I:p.aP<n))) ?_
   refine dO fun cf=>AO (f:=f) ?_ cf ⟨rfl,rfl⟩ ⟨rfl,rfl⟩ ⟨rfl,rfl⟩ ⟨rfl,rfl⟩ fun ba aT cB fQ cQ=>?_
   .exact NS
   intro jz
   have E:=gW (fun b ad h=>cQ b I h) [gr,hv,p.aP,gh,eE] (n:=n) ua
   simp only[h4,and_true]at E
   have sY:ba gr=some (.al false [.ptr hv 0]):=by rw[E.1];exact eP (aN (pM (I:gr<n)) (ag (I:gr<n)))
   have vh:ba hv=some (.al false [.ptr r 0,.slice gh 0 v.keys.length v.keys.length 1,.slice eE 0 v.keys.length v.keys.length 1]):=by rw[E.2.1];exact eP (ag (I:hv<n))
   refine aL w8 (gq sY vh fQ F D T @cK) ?_
   apply aF
   refine a6 i230.eq_1 ?_
   intro _
   refine .all (J bB _ _ _ {f with hl:=.int .i64 0,gJ:=.br,fV:=.int .u64 0,fW:=.int .i64 0,effect:=.bool true,done:=.bool true} _ I ⟨hz,⟨_,_,_,m',rfl⟩,⟨?_,?_⟩,rfl⟩ ?_ ?_)
   .exact eP (d' E vh fQ e0 (ag (I:hv<n)) (ag (I:p.aP<n)))
   .exact hc
   .exact ho
   .intro b ad bI
    have c4:=zN bI
    simp only[h4,and_true,List.map]at c4
    exact bc (cw c4 (cQ b I (fun e=>bI (by rw[e];simp))) (ag (I:b<n)))
  .have Ln:(w==0)=false:=by simpa using bB
   refine aL (aN Er.eq_1 w8) (bs F D T @cK aZ.x bB Ln (ag (I:r<n)) (ag (I:hv<n)) (ag (I:gr<n)) (ag (I:fX<n)) (aN (ag (I:gj<n)) (ag (I:p.aP<n)))) ?_
   apply aF
   refine a6 i230.eq_1 ?_
   intro _
   refine .all (U bB _ _ _ {f with next:=r4 gr (n+18) fX gj} _ I ⟨hz,⟨gr,fX,gj,n+18,_,_,_,rfl,m',rfl⟩,⟨?_,?_⟩,rfl⟩ ?_ ?_)
   .exact eP (ji aZ.x (ag (I:hv<n)) (ag (I:p.aP<n)) (ag (I:r<n)) (ag (I:gr<n)) (ag (I:fX<n)) (ag (I:gj<n)) jS.eq_1 r4.eq_1 e0)
   .exact hc
   .exact ho
   .exact wU n
end
section
variable{g:G}{n:Nat}{a:aE}{K:cj aE}{p:ew}{fl:List Nat}{r hv:Nat}{v:jd}{f:bF}{L:List (Nat×bt)}
theorem asI(x y z:Nat):(jS x y z).cells=[jS x y z]:=rfl
theorem asH(x y z:Nat):(jS x y z).cell=true:=rfl
theorem asJ(x y z:Nat):V.same 40 (jS x y z) (jS x y z)=true:=kS aM aM rfl rfl
theorem GS(l:List Int):(ints l).length=l.length:=by simp[ints]
theorem aIP(hu:v.aY= .ask)(h:nA p a.an a.ar g fl r hv v f L)(ap:bm g n){w:Int}(hw:a.at_ (IntKind.wrap .i64 v.a7) 1 w)(aA:v.keys.length<100000)
 (J:pS p g n fl r hv K {v with keys:=v.keys++[w],gH:=v.gH++[IntKind.wrap .i64 v.a7],bk:=IntKind.wrap .i64 v.a7,bo:=0,aY:=.load} a.tick):
 eG f.next [] g n a K:=by
 have a5:=h
 obtain⟨aZ,dG,own,rfl⟩:=h
 simp only[rs,hu]at dG
 obtain⟨gr,fX,gj,oS,kv,aW,jt,ga,jy,rfl⟩:=dG
 refine⟨_,_,_,ga,?_⟩
 have aH:f.done= .bool false:=by rw[aZ.done,hu];rfl
 rcases jy with⟨rfl,rfl,g3,j0,rfl⟩|⟨gh,eE,rfl,rfl,e0,g8,rfl⟩
 .refine iU fun F D T=>?_
  have cV:r<n:=by simp only[T]
  have kM:hv<n:=by simp only[T]
  have rS:gr<n:=by simp only[T]
  have da:p.aP<n:=by simp only[T]
  have tv:fX<n:=by simp only[T]
  have qf:gj<n:=by simp only[T]
  have nK:oS<n:=by simp only[T]
  refine bE i231 fun N aF=>?_
  refine aL Fw (bs F D T @cK aZ.x (ag (I:r<n)) (ag (I:hv<n)) (ag (I:gr<n)) (ag (I:fX<n)) (ag (I:gj<n)) (ag (I:oS<n)) (ag (I:p.aP<n))) ?_
  refine rT hw fun n' az=>?_
  intro dm
  refine fG (aN Mz.eq_1 Fw) (bs F D T @cK aZ.x fY.eq_1 @asI @asH @asJ @Nat.le_refl g3 (bs j0 (ag (I:r<n)) (ag (I:hv<n)) (ag (I:gr<n)) (ag (I:fX<n)) (ag (I:gj<n)) (ag (I:oS<n)) (ag (I:p.aP<n)) (ag (I:r<n')) (ag (I:hv<n')) (ag (I:gr<n')) (cc (ag (I:fX<n')) (ag (I:gj<n')) (ag (I:oS<n')) (ag (I:p.aP<n'))))) ?_
  apply aF
  refine a6 i231.eq_1 ?_
  intro _
  refine .all (J _ _ _ {f with next:=jS gr fX gj} _ I ⟨hz,⟨gr,fX,gj,.slice (n'+23) 0 1 1 1,.slice (n'+24) 0 1 1 1,[(n'+23,.al false (words (v.keys++[w]))),(n'+24,.al false (ints (v.gH++[IntKind.wrap .i64 v.a7])))],rfl,.inr ⟨n'+23,n'+24,by simp[g3],by simp[g3],by simp[g3],by simp[g3,j0],rfl⟩,rfl⟩,⟨?_,?_⟩,rfl⟩ ?_ ?_)
  .exact eP (bs aZ.x g3 j0 jS.eq_1 ints.eq_1 @List.map_append.{0,0} (ag (I:r<n')) (ag (I:hv<n')) (ag (I:gr<n')) (ag (I:fX<n')) (ag (I:gj<n')) (aN (ag (I:oS<n')) (ag (I:p.aP<n'))))
  .exact hc
  .exact ho
  .exact wU n'
 .refine iU fun F D T=>?_
  have cV:r<n:=by simp only[T]
  have kM:hv<n:=by simp only[T]
  have rS:gr<n:=by simp only[T]
  have da:p.aP<n:=by simp only[T]
  have tv:fX<n:=by simp only[T]
  have qf:gj<n:=by simp only[T]
  have nK:oS<n:=by simp only[T]
  have cd:gh<n:=by simp only[T]
  have le:eE<n:=by simp only[T]
  have c1:¬v.keys.length+1<=v.keys.length:=I
  have c2:v.keys.length+1<=1048576:=I
  have eu:List.take v.keys.length (words v.keys)=words v.keys:=List.take_of_length_le (by rw[iS];omega)
  have jH:List.take v.keys.length (ints v.gH)=ints v.gH:=List.take_of_length_le (by rw[GS];omega)
  have m1:v.keys.length<=v.gH.length:=I
  refine bE i231 fun N aF=>?_
  refine aL Fw (bs F D T @cK aZ.x (ag (I:r<n)) (ag (I:hv<n)) (ag (I:gr<n)) (ag (I:fX<n)) (ag (I:gj<n)) (ag (I:oS<n)) (ag (I:p.aP<n))) ?_
  refine rT hw fun n' az=>?_
  intro dm
  refine fG (aN Mz.eq_1 Fw) (bs F D T @cK aZ.x fY.eq_1 @asI @asH @asJ @Nat.le_refl e0 (bs g8 c1 c2 eu jH m1 @iS @GS (ag (I:r<n)) (ag (I:hv<n)) (ag (I:gr<n)) (bs (ag (I:fX<n)) (ag (I:gj<n)) (ag (I:oS<n)) (ag (I:p.aP<n)) (ag (I:r<n')) (ag (I:hv<n')) (ag (I:gr<n')) (ag (I:fX<n')) (ag (I:gj<n')) (ag (I:oS<n')) (ag (I:p.aP<n')) (aN (ag (I:gh<n')) (ag (I:eE<n')))))) ?_
  apply aF
  refine a6 i231.eq_1 ?_
  intro _
  refine .all (J _ _ _ {f with next:=jS gr fX gj} _ I ⟨hz,⟨gr,fX,gj,.slice (n'+23) 0 (v.keys.length+1) (v.keys.length+1) 1,.slice (n'+24) 0 (v.keys.length+1) (v.keys.length+1) 1,[(n'+23,.al false (words (v.keys++[w]))),(n'+24,.al false (ints (v.gH++[IntKind.wrap .i64 v.a7])))],rfl,.inr ⟨n'+23,n'+24,aM,aM,aM,by simp[g8],rfl⟩,rfl⟩,⟨?_,?_⟩,rfl⟩ ?_ ?_)
  .exact eP (bs aZ.x e0 g8 c1 c2 eu jH m1 @iS @GS jS.eq_1 (jO ints.eq_1 @List.map_append.{0,0} (ag (I:r<n')) (ag (I:hv<n')) (ag (I:gr<n')) (ag (I:fX<n')) (ag (I:gj<n')) (ag (I:oS<n')) (ag (I:p.aP<n'))))
  .exact hc
  .exact ho
  .exact wU n'
end
section
variable{g:G}{n:Nat}{a:aE}{K:cj aE}{p:ew}{fl:List Nat}{r hv:Nat}{v:jd}{f:bF}{L:List (Nat×bt)}
theorem pS.trans{bY:G}{bq:Nat}{gI:List Nat}(h:pS p g n fl r hv K v a)(az:n<=bq)(cE:∀b∈gI,b∈fl\/n<=b)(aw:∀b,b<n->b∉fl->bY b=g b):pS p bY bq gI r hv K v a:=by
 intro g' n' fl' cn iF oF ak oD p7
 refine h g' n' fl' cn iF I ak (fun b ad=>?_) fun b ad bI=>?_
 .rcases oD b ad with J|J
  .exact cE b J
  .exact .inr I
 .rw[p7 b I (fun J=>?_),aw b ad bI]
  rcases cE b J with U|U
  .exact bI U
  .omega
theorem aIQ(hu:v.aY= .go)(h:nA p a.an a.ar g fl r hv v f L)(ap:bm g n)(ak:0<=v.room/\v.room<1000)
 (J:∀g' n' fl' cn iF,n<=n'->nA p a.an a.ar g' fl' r hv {v with bk:=p.R,bo:=bW v.room+2,aY:=.load} cn iF->(∀b∈fl',b=r\/b=hv\/n<=b)->(∀b,b<n->b≠r->g' b=g b)->K (.bN []) g' n' a):aR ct bA 164 [.ptr hv 0] g n a K:=by
 have a5:=h
 obtain⟨aZ,dG,own,rfl⟩:=h
 simp only[rs,hu]at dG
 obtain⟨cP,ga,g3,j0,rfl⟩:=dG
 have aH:f.done= .bool false:=by rw[aZ.done,hu];rfl
 refine iU fun F D T=>?_
 have cV:r<n:=by simp only[T]
 have kM:hv<n:=by simp only[T]
 have rS:cP<n:=by simp only[T]
 have da:p.aP<n:=by simp only[T]
 refine bE i164 fun pO je=>?_
 refine aL Oz (bs F D T @cK aZ.x aZ.room (ag (I:r<n)) (ag (I:hv<n)) (ag (I:cP<n)) (ag (I:p.aP<n)) (ag (I:n<n+1)) (cc (ag (I:r<n+1)) (ag (I:hv<n+1)) (ag (I:cP<n+1)) (ag (I:p.aP<n+1)))) ?_
 refine dO fun cf=>Ks (p:=p) ?_ cf ak fun n' az=>?_
 .exact eP (pM (I:p.aP<n+1))
 intro dm
 refine aL (aN adB.eq_1 Oz) (bs F D T @cK aZ.x aZ.room (ag (I:r<n)) (ag (I:hv<n)) (ag (I:cP<n)) (ag (I:p.aP<n)) (ag (I:n<n+1)) (jO (ag (I:r<n+1)) (ag (I:hv<n+1)) (ag (I:cP<n+1)) (ag (I:p.aP<n+1)) (ag (I:n<n')) (ag (I:r<n')) (ag (I:hv<n')) (ag (I:cP<n')) (ag (I:p.aP<n')))) ?_
 apply je
 refine a6 i164.eq_1 ?_
 intro _
 refine .all (J _ _ _ {f with next:=jS n (n+16) n'} [(hv,.al false [.ptr r 0,.br,.br]),(n,.al false [.ptr hv 0]),(n+16,.al false [.int .i64 p.R,.int .i64 (bW v.room+2)]),(n',.al false [jS n (n+16) n'])] I ⟨hz,⟨n,n+16,n',_,_,[],rfl,.inl ⟨rfl,rfl,g3,j0,rfl⟩,rfl⟩,⟨?_,?_⟩,rfl⟩ ?_ ?_)
 .exact eP (bs aZ.x aZ.room jS.eq_1 (ag (I:r<n)) (ag (I:hv<n)) (ag (I:cP<n)) (ag (I:p.aP<n)) (ag (I:n<n+1)) (ag (I:r<n+1)) (ag (I:hv<n+1)) (ag (I:cP<n+1)) (ag (I:p.aP<n+1)))
 .exact hc
 .exact ho
 .intro b ad bI
  have c4:(r=b)=False:=eq_false fun e=>bI e.symm
  exact bc (cc c4 (ag (I:b<n')) (ag (I:b<n+1)) (ag (I:b<n)))
theorem aIS(hu:v.aY= .go)(h:nA p a.an a.ar g fl r hv v f L)(ap:bm g n)(ak:0<=v.room/\v.room<1000){w:Int}(hw:a.at_ p.R (bW v.room+2) w)
 (J:w=0->pS p g n fl r hv K {v with bk:=p.R,bo:=bW v.room+2,bH:=true,aY:=.done} a.tick) (U:w≠0->pS p g n fl r hv K {v with bk:=p.R,bo:=bW v.room+2,a7:=w,aY:=.ask} a.tick):
 eG f.next [] g n a K:=by
 have a5:=h
 obtain⟨aZ,dG,own,rfl⟩:=h
 simp only[rs,hu]at dG
 obtain⟨cP,ga,g3,j0,rfl⟩:=dG
 refine⟨_,_,_,ga,?_⟩
 have aH:f.done= .bool false:=by rw[aZ.done,hu];rfl
 refine iU fun F D T=>?_
 have cV:r<n:=by simp only[T]
 have kM:hv<n:=by simp only[T]
 have rS:cP<n:=by simp only[T]
 have da:p.aP<n:=by simp only[T]
 refine bE i163 fun N aF=>?_
 refine aL Oy (cw F D T) ?_
 refine aIQ hu a5 (ap.mono I) ak ?_
 intro g' n' fl' cn iF az bG cE hg gB
 have K5:=bG
 obtain⟨aII,EW,Ej,rfl⟩:=bG
 simp only[rs]at EW
 obtain⟨gr,fX,gj,kv,aW,jt,jh,jy,rfl⟩:=EW
 have Aj:=Ej.at_
 simp only[List.forall_mem_cons]at Aj
 have Jz:cP≠r:=by simp only[ne_eq,D,not_false_eq_true]
 have JJ:g' cP=some (.al false [.ptr hv 0]):=by rw[hg cP rS Jz];simp only[F]
 refine aL Oy (d' JJ Aj.2.1 Aj.2.2.1 jh jS.eq_1 @cK) ?_
 have th:∀b∈r::(((hv,bt.al false [.ptr r 0,kv,aW])::(gr,.al false [.ptr hv 0])::(fX,.al false [.int .i64 p.R,.int .i64 (bW v.room+2)])::(gj,.al false [jS gr fX gj])::jt).map (·.1)),b∈r::([(hv,bt.al false [.ptr r 0,.br,.br]),(cP,.al false [.ptr hv 0])].map (·.1))\/n<=b:=fun b ad=>by have:=cE b ad;simp only[List.map,List.mem_cons,List.not_mem_nil,or_false];omega
 have Dr:∀b,b<n->b∉r::([(hv,bt.al false [.ptr r 0,.br,.br]),(cP,.al false [.ptr hv 0])].map (·.1))->g' b=g b:=fun b ad bI=>hg b ad fun e=>bI (by simp[e])
 obtain⟨id,first,cap,wa,gW⟩:=asK (K:=fun _ g n a=>K (.bN []) g n a) (n:=n') rfl K5 gB hw (fun bB=>show pS p g' n' _ r hv K _ _ from(J bB).trans I th Dr) (fun bB=>show pS p g' n' _ r hv K _ _ from(U bB).trans I th Dr)
 rw[jh]at wa
 simp only[jS,V.fn.injEq,Fn.func.injEq]at wa
 obtain⟨rfl,rfl,rfl⟩:=wa
 refine aR.mono gW fun v2 ba aT b7 cB eJ dC=>?_
 apply aF
 refine a6 i163.eq_1 ?_
 exact fun _=>.all eJ
end
section
variable{g:G}{n:Nat}{a:aE}{K:cj aE}{p:ew}{fl:List Nat}{r:Nat}{u:gD}{f:bF}{L:List (Nat×bt)}
theorem aID{b0 b1:Nat}{x:V}(aZ:Ix p u f)(aH:f.done= .bool u.aY.hL)(bh:u.aY.hL=false)(own:Own g ((p.aP,gn p a.an a.ar)::(r,.al false f.l)::[(b0,.al false [.ptr r 0]),(b1,uZ u x)]))(ap:bm g n)(ak:0<=u.room/\u.room<1000)
 (J:∀g' n' fl' cn iF,n<=n'->kW p a.an a.ar g' fl' r {u with bk:=p.R,bo:=bW u.room+2,aY:=.load} cn iF->(∀b∈fl',b=r\/b=b0\/b=b1\/n<=b)->(∀b,b<n->b≠r->g' b=g b)->K (.bN []) g' n' a):
 aR ct bA 160 [.ptr r 0,.int .u64 u.key,.bool false,Aa b0 b1] g n a K:=by
 rw[bh]at aH
 refine iU fun F D T=>?_
 have cV:r<n:=by simp only[T]
 have rS:b0<n:=by simp only[T]
 have tv:b1<n:=by simp only[T]
 have da:p.aP<n:=by simp only[T]
 refine bE i160 fun N aF=>?_
 refine aL Ow (bs F D T @cK aZ.x aZ.room Aa.eq_1 (ag (I:r<n)) (ag (I:b0<n)) (ag (I:b1<n)) (ag (I:p.aP<n)) (e_ (ag (I:n<n+4)) (ag (I:n+1<n+4)) (ag (I:n+2<n+4)) (ag (I:n+3<n+4)) (ag (I:r<n+4)) (ag (I:b0<n+4)) (ag (I:b1<n+4)) (ag (I:p.aP<n+4)))) ?_
 refine dO fun cf=>Ks (p:=p) ?_ cf ak fun n' az=>?_
 .exact NS
 intro dm
 refine aL (aN adA.eq_1 Ow) (bs F D T @cK aZ.x aZ.room (ag (I:r<n)) (ag (I:b0<n)) (ag (I:b1<n)) (ag (I:p.aP<n)) (ag (I:n<n+4)) (bs (ag (I:n+1<n+4)) (ag (I:n+2<n+4)) (ag (I:n+3<n+4)) (ag (I:r<n+4)) (ag (I:b0<n+4)) (ag (I:b1<n+4)) (ag (I:p.aP<n+4)) (ag (I:n<n')) (ag (I:n+1<n')) (ag (I:n+2<n')) (ag (I:n+3<n')) (cc (ag (I:r<n')) (ag (I:b0<n')) (ag (I:b1<n')) (ag (I:p.aP<n'))))) ?_
 apply aF
 refine a6 i160.eq_1 ?_
 intro _
 refine .all (J _ _ _ {f with bk:=.int .i64 p.R,bo:=.int .i64 (bW u.room+2),next:=va n (n+3) (n'+1)} _ I ⟨hz,⟨n,n+1,n+2,n+3,n',n'+1,b0,b1,x,rfl,rfl⟩,⟨?_,?_⟩,rfl⟩ ?_ ?_)
 .exact eP (ji aZ.x aZ.room (ag (I:n<n')) (ag (I:n+1<n')) (ag (I:n+2<n')) (ag (I:n+3<n')) (ag (I:r<n')) (ag (I:b0<n')) (ag (I:b1<n')) (ag (I:p.aP<n')))
 .exact hc
 .exact ho
 .intro b ad bI
  have c4:(r=b)=False:=eq_false fun e=>bI e.symm
  exact bc (cc c4 (ag (I:b<n')) (ag (I:b<n+4)) (ag (I:b<n)))
theorem aIz(hu:u.aY= .go)(h:kW p a.an a.ar g fl r u f L)(ap:bm g n)(ak:0<=u.room/\u.room<1000){w:Int}(hw:a.at_ p.R (bW u.room+2) w)
 (J:IntKind.wrap .i64 w=0->jc p g n fl r K {u with bk:=p.R,bo:=bW u.room+2,a7:=0,aY:=.space} a.tick) (U:IntKind.wrap .i64 w≠0->jc p g n fl r K {u with bk:=p.R,bo:=bW u.room+2,a7:=IntKind.wrap .i64 w,aY:=.ask} a.tick):
 eG f.next [] g n a K:=by
 obtain⟨aZ,dG,own,rfl⟩:=h
 simp only[pp,hu]at dG
 obtain⟨b0,b1,x,ga,rfl⟩:=dG
 refine⟨_,_,_,ga,?_⟩
 have aH:f.done= .bool false:=by rw[aZ.done,hu];rfl
 refine iU fun F D T=>?_
 have cV:r<n:=by simp only[T]
 have rS:b0<n:=by simp only[T]
 refine bE i159 fun N aF=>?_
 refine aL Ov (cw F D T) ?_
 refine aID aZ aZ.done (by rw[hu];rfl) own (ap.mono I) ak ?_
 intro g' n' fl' cn iF az bG cE hg gB
 have K5:=bG
 obtain⟨aII,EW,Ej,rfl⟩:=bG
 simp only[pp]at EW
 obtain⟨d0,d1,d2,d3,d4,d5,avn,avo,lg,jh,rfl⟩:=EW
 have Aj:=Ej.at_
 simp only[List.forall_mem_cons]at Aj
 have Jz:b0≠r:=by simp only[ne_eq,D,not_false_eq_true]
 have JJ:g' b0=some (.al false [.ptr r 0]):=by rw[hg b0 rS Jz];simp only[F]
 refine aL Ov (eW JJ Aj.2.1 jh va.eq_1 @cK) ?_
 have th:∀b∈r::((r2 {u with bk:=p.R,bo:=bW u.room+2,aY:=.load} r lg d0 d1 d2 d3 d4 d5 avn avo).map (·.1)),b∈r::([(b0,bt.al false [.ptr r 0]),(b1,uZ u x)].map (·.1))\/n<=b:=fun b ad=>by have:=cE b ad;simp only[List.map,List.mem_cons,List.not_mem_nil,or_false];omega
 have Dr:∀b,b<n->b∉r::([(b0,bt.al false [.ptr r 0]),(b1,uZ u x)].map (·.1))->g' b=g b:=fun b ad bI=>hg b ad fun e=>bI (by simp[e])
 obtain⟨id,first,cap,wa,gW⟩:=asG (K:=fun _ g n a=>K (.bN []) g n a) (n:=n') rfl K5 gB hw (fun bB=>show jc p g' n' _ r K _ _ from(J bB).trans I th Dr) (fun bB=>show jc p g' n' _ r K _ _ from(U bB).trans I th Dr)
 rw[jh]at wa
 simp only[va,V.fn.injEq,Fn.func.injEq]at wa
 obtain⟨rfl,rfl,rfl⟩:=wa
 refine aR.mono gW fun v2 ba aT b7 cB eJ dC=>?_
 apply aF
 refine a6 i159.eq_1 ?_
 exact fun _=>.all eJ
end
section
inductive Cd where
 |start (i:Nat)
 |jY
 |val
 |dec
 |jo
 |j9 (w:Int)
 |done
def Cd.hL:Cd->Bool
 | .done=>true
 |_=>false
structure lj where
 bk:Int
 bo:Int
 a7:Int
 val:Int
 b_:jd
 bH:Bool
 aY:Cd
structure at4(p:ew)(u:lj)(f:bF):Prop where
 x:f.x= .ptr p.aP 0
 bH:f.effect= .bool u.bH
 done:f.done= .bool u.aY.hL
 room:f.room= .int .i64 u.b_.room
 bk:f.bk= .int .i64 u.bk
 bo:f.bo= .int .i64 u.bo
 a7:f.a7= .int .i64 u.a7
def kL(q:Nat):V:=.fn (.func 172) [] [.ptr q 0]
def k7(s2 iq:Nat):V:=.fn (.func 233) [] [.ptr s2 0,.ptr iq 0]
def vm(p:ew)(an k hv:Nat)(u:lj)(f:bF)(ov:List (Nat×bt)):Prop:=
 match u.aY with
 | .start i=>∃cO fc ea,f.next= .fn (.func 170) [] [.ptr cO 0,.ptr fc 0,.ptr ea 0]/\ov=[(cO,.al false [.ptr hv 0]),(fc,.al false [.int .i64 i]),(ea,.al false [.ptr k 0])]
 | .jY=>∃sJ j6 s2 iq ea,f.next= .fn (.func 285) [] [.ptr sJ 0,.ptr j6 0]/\ov=[(sJ,.al false [.ptr k 0]),(j6,.al false [k7 s2 iq]),(s2,.al false [.ptr k 0]),(iq,.al false [kL ea]),(ea,.al false [.ptr k 0])]
 | .val=>∃s2 iq ea,f.next=k7 s2 iq/\ov=[(s2,.al false [.ptr k 0]),(iq,.al false [kL ea]),(ea,.al false [.ptr k 0])]
 | .dec=>∃s2 iq ea aO,f.next= .fn (.func 234) [] [.ptr s2 0,.ptr iq 0]/\f.hl= .int .i64 0/\f.gJ= .slice aO 0 1 1 1/\f.fV= .int .u64 0/\f.fW= .int .i64 0/\ov=[(s2,.al false [.ptr k 0]),(iq,.al false [kL ea]),(ea,.al false [.ptr k 0]),(aO,.al false [.int .u64 u.val])]
 | .jo=>∃nt nu ea,f.next= .fn (.func 286) [] [.ptr nt 0,.ptr nu 0]/\ov=[(nt,.al false [.ptr k 0]),(nu,.al false [kL ea]),(ea,.al false [.ptr k 0])]
 | .j9 w=>∃nt nu h1 ea,f.next= .fn (.func 287) [] [.ptr nt 0,.ptr h1 0,.ptr nu 0]/\ov=[(nt,.al false [.ptr k 0]),(nu,.al false [kL ea]),(h1,.al false [.int .u64 w]),(ea,.al false [.ptr k 0])]
 | .done=>ov=[]
structure ou(p:ew)(an ar:Nat)(g:G)(fl:List Nat)(r hv k:Nat)(u:lj)(f0 f:bF)(L:List (Nat×bt)):Prop where
 hM:Oe p u.b_ f0
 nv:u.b_.aY= .done
 aZ:at4 p u f
 dG:∃kv aW jt ov,Ao kv aW u.b_.keys u.b_.gH jt/\vm p an k hv u f ov/\L=(hv,.al false [.ptr r 0,kv,aW])::(jt++ov)
 own:Own g ((p.aP,gn p an ar)::(r,.al false f0.l)::(k,.al false f.l)::L)
 fl:fl=r::k::L.map (·.1)
variable{g:G}{n:Nat}{a:aE}{K:cj aE}{p:ew}{fl:List Nat}{r hv k:Nat}{u:lj}{f0 f:bF}{L:List (Nat×bt)}
def w3(p:ew)(g:G)(n:Nat)(fl:List Nat)(r hv k:Nat)(K:cj aE)(u:lj)(a:aE):Prop:=
 ∀g' n' fl' JK cn iF,n<=n'->ou p a.an a.ar g' fl' r hv k u JK cn iF->(∀b∈fl',b∈fl\/n<=b)->(∀b,b<n->b∉fl->g' b=g b)->K (.bN []) g' n' a
theorem aBK(hu:u.aY= .jY)(h:ou p a.an a.ar g fl r hv k u f0 f L)(ap:bm g n){w:Int}(hw:a.at_ p.R 1 w)
 (J:w3 p g n fl r hv k K {u with aY:=.val} (a.put p.R 1 (fy w 18446744073709551615 1))):
 eG f.next [] g n a K:=by
 obtain⟨hM,nv,aZ,⟨kv,aW,jt,ov,jy,mg,rfl⟩,own,rfl⟩:=h
 simp only[vm,hu]at mg
 obtain⟨sJ,j6,s2,iq,ea,ga,rfl⟩:=mg
 refine⟨_,_,_,ga,?_⟩
 have aH:f.done= .bool false:=by rw[aZ.done,hu];rfl
 have m':=jy
 rcases jy with⟨rfl,rfl,g3,j0,rfl⟩|⟨gh,eE,rfl,rfl,e0,g8,rfl⟩
 .refine iU fun F D T=>?_
  simp only[oV,h4,and_true,List.map,oX,kL,k7]at F D T
  refine bE i285 fun N aF=>?_
  refine aL Az (eW F D T @cK aZ.x) ?_
  refine yQ hw fun n' az=>?_
  intro dm
  refine aL Az (eW F D T @cK aZ.x) ?_
  apply aF
  refine a6 i285.eq_1 ?_
  intro _
  refine .all (J _ _ _ f0 {f with next:=k7 s2 iq} _ I ⟨hM,nv,hz,⟨_,_,_,_,m',⟨s2,iq,ea,rfl,rfl⟩,rfl⟩,⟨?_,?_⟩,rfl⟩ ?_ ?_)
  .exact eP (d' aZ.x jS.eq_1 kL.eq_1 k7.eq_1 g3 j0)
  .exact hc
  .exact ho
  .exact nY
 .refine iU fun F D T=>?_
  simp only[oV,h4,and_true,List.map,oX,kL,k7]at F D T
  refine bE i285 fun N aF=>?_
  refine aL Az (eW F D T @cK aZ.x) ?_
  refine yQ hw fun n' az=>?_
  intro dm
  refine aL Az (eW F D T @cK aZ.x) ?_
  apply aF
  refine a6 i285.eq_1 ?_
  intro _
  refine .all (J _ _ _ f0 {f with next:=k7 s2 iq} _ I ⟨hM,nv,hz,⟨_,_,_,_,m',⟨s2,iq,ea,rfl,rfl⟩,rfl⟩,⟨?_,?_⟩,rfl⟩ ?_ ?_)
  .exact eP (eW aZ.x jS.eq_1 kL.eq_1 k7.eq_1 e0)
  .exact hc
  .exact ho
  .exact nY
end
section
variable{g:G}{n:Nat}{a:aE}{K:cj aE}{p:ew}{fl:List Nat}{r hv k:Nat}{u:lj}{f0 f:bF}{L:List (Nat×bt)}
theorem aBM{i:Nat}(hu:u.aY= .start i)(h:ou p a.an a.ar g fl r hv k u f0 f L)(ap:bm g n)(aC:i<u.b_.keys.length)(aA:u.b_.keys.length<100000){w:Int}(hw:a.at_ p.R 0 w)
 (J:w3 p g n fl r hv k K {u with b_:={u.b_ with gH:=u.b_.gH.set i 0},aY:=.jY} (a.put p.R 0 (fy w 18446744073709551615 4294967296))):
 eG f.next [] g n a K:=by
 obtain⟨hM,nv,aZ,⟨kv,aW,jt,ov,jy,mg,rfl⟩,own,rfl⟩:=h
 simp only[vm,hu]at mg
 obtain⟨cO,fc,ea,ga,rfl⟩:=mg
 refine⟨_,_,_,ga,?_⟩
 have aH:f.done= .bool false:=by rw[aZ.done,hu];rfl
 have m':=jy
 rcases jy with⟨rfl,rfl,g3,j0,rfl⟩|⟨gh,eE,rfl,rfl,e0,g8,rfl⟩
 .rw[g3]at aC;simp at aC
 .refine iU fun F D T=>?_
  simp only[oV,h4,and_true,List.map,oX,kL,k7]at F D T
  have cd:k<n:=by simp only[T]
  have cV:r<n:=by simp only[T]
  have kM:hv<n:=by simp only[T]
  have qf:cO<n:=by simp only[T]
  have nK:fc<n:=by simp only[T]
  have pz:ea<n:=by simp only[T]
  have lb:gh<n:=by simp only[T]
  have le:eE<n:=by simp only[T]
  have da:p.aP<n:=by simp only[T]
  have c1:(0:Int)<=(i:Int):=I
  have c2:(i:Int)< (u.b_.keys.length:Int):=I
  have eu:i+1<=u.b_.gH.length:=I
  have jH:(ints u.b_.gH).set i (V.int .i64 0)=ints (u.b_.gH.set i 0):=by simp[ints,List.map_set]
  refine bE i170 fun N aF=>?_
  refine aL aup (kw F D T @cK aZ.x c1 c2 eu jH @GS @Int.toNat_natCast) ?_
  refine bE i171 fun pO je=>?_
  refine aL IG (d' F D T @cK aZ.x jH) ?_
  refine yQ hw fun n' az=>?_
  intro dm
  refine aL IG (bs F D T @cK aZ.x jH (ag (I:n<n')) (ag (I:n+1<n')) (ag (I:n+7<n')) (ag (I:n+8<n')) (ag (I:r<n')) (e_ (ag (I:k<n')) (ag (I:hv<n')) (ag (I:cO<n')) (ag (I:fc<n')) (ag (I:ea<n')) (ag (I:gh<n')) (ag (I:eE<n')) (ag (I:p.aP<n')))) ?_
  refine dO fun cf=>P' rfl (by rfl) rfl cf fun aT cB=>?_
  intro dC
  refine aL (aN adD.eq_1 IG) (bs F D T @cK aZ.x jH (ag (I:n<n')) (ag (I:n+1<n')) (ag (I:n+7<n')) (ag (I:n+8<n')) (ag (I:r<n')) (e_ (ag (I:k<n')) (ag (I:hv<n')) (ag (I:cO<n')) (ag (I:fc<n')) (ag (I:ea<n')) (ag (I:gh<n')) (ag (I:eE<n')) (ag (I:p.aP<n')))) ?_
  apply je
  refine a6 i171.eq_1 ?_
  intro _
  refine .all ?_
  intro gB
  apply aF
  refine a6 i170.eq_1 ?_
  intro _
  refine .all (J _ _ _ f0 {f with next:=.fn (.func 285) [] [.ptr (n'+7) 0,.ptr (n'+8) 0]} _ I ⟨⟨hM.x,hM.bH,hM.done,hM.room⟩,nv,hz,⟨_,_,_,_,.inr ⟨gh,eE,rfl,rfl,e0,by simp[g8],rfl⟩,⟨n'+7,n'+8,n+7,n+8,ea,rfl,rfl⟩,rfl⟩,⟨?_,?_⟩,rfl⟩ ?_ ?_)
  .exact eP (bs aZ.x jS.eq_1 kL.eq_1 k7.eq_1 e0 (ag (I:n<n')) (ag (I:n+1<n')) (ag (I:n+7<n')) (ag (I:n+8<n')) (ag (I:r<n')) (ag (I:k<n')) (gq (ag (I:hv<n')) (ag (I:cO<n')) (ag (I:fc<n')) (ag (I:ea<n')) (ag (I:gh<n')) (ag (I:eE<n')) (ag (I:p.aP<n'))))
  .exact hc
  .exact ho
  .exact wU n'
end
