/- Part of the proof of BatchOnce, for every input. -/
import Derived.Test.YtobokeclhlbnmaaGreatB10
set_option linter.all false
namespace Go.Proofs.Run
open Go Go.Abs
attribute [local irreducible] b9 cI cr cg aR
set_option maxRecDepth 100000
set_option maxHeartbeats 4000000
theorem az9{p:ew}{a:aE}{u:lj}{Q:aE->lj->Prop}(h:px p a {u with bH:=false} Q):px p a {u with bH:=false} (fun a' bj=>Q a' bj/\(bj.bH=true->bj.aY= .dec)):=by
 unfold px at h |-
 cases aB:u.aY<;>simp only[aB]at h |-
 .obtain⟨J,U,w,aq,aK⟩:=h;exact⟨J,U,w,aq,aK,aM⟩
 .obtain⟨w,aq,aK⟩:=h;exact⟨w,aq,aK,aM⟩
 .obtain⟨w,aq,aK⟩:=h;exact⟨w,aq,aK,aM⟩
 .obtain⟨w,aq,aK⟩:=h;exact⟨w,aq,aK,aM⟩
 .obtain⟨w,aq,aK⟩:=h;exact⟨w,aq,aK,aM⟩
 .obtain⟨J,U,aq,aK,bx,cp⟩:=h;exact⟨J,U,aq,aK,bx,fun b bC fl c_=>⟨cp b bC fl c_,aM⟩⟩
def ot.rZ:ot->Prop
 | .take u=>u.bH=true->u.aY= .dec
 | .leave _ _ _=>True
theorem aAX{p:ew}{a:aE}{r:ot}{Q:aE->ot->Prop}(h:we p a r Q):we p a r (fun a' r'=>Q a' r'/\r'.rZ):=by
 cases r with
 |take u=>exact az9 (Q:=fun a' bj=>Q a' (.take bj)) h
 |leave room e d=>obtain⟨J,w,U,aq⟩:=h;exact⟨J,w,U,aq,trivial⟩
def rD(p:ew)(an ar cx:Nat)(yP:List (Nat×bt))(cy:1<=p.B/\p.B<1000):fw where
 V:=jd
 R:=ot
 L:=gD
 an:=an
 ar:=ar
 e8:=p.B
 dv:=jJ p an ar cx++yP
 dk:=.fn (.func 91) [] [.ptr cx 0]
 aI:=.fn (.func 88) [] [.ptr cx 0]
 rh:=xR p an ar
 oM g fl bz b8 r:=zj p an ar g fl bz b8 r/\r.rZ
 uR:=Gt p an ar
 tU k:=⟨k,0,0,0,[],[],false,.draw⟩
 Ad a v:=qY p a {v with bH:=false}
 qt v:=v.bH
 r5 v:=v.aY.hL
 iP v:=v.keys
 tok:=zo
 zH _:=True
 nO v i:=.take ⟨p.R,bW v.room+2,v.gH.getD i 0,0,v,false,.start i⟩
 pH v:=.leave v.room false false
 wJ:=we p
 oL r:=r.AM
 j7 r:=r.cJ
 x' r:=match r with| .take u=>u.val| .leave _ _ _=>0
 q8 r:=match r with| .take u=>some u.b_| .leave _ _ _=>none
 zF key val l:=∃k,(0<=k/\k<p.B)/\l=(⟨key,val,k,0,0,0,0,0,0,false,.draw⟩:gD)
 pA a l:=lY p a {l with bH:=false}
 sF l:=l.aY.hL
 G5 l:=l.bH
 tS:=by
  rintro g g' fl bz v ⟨r,hv,ch,f,L,cT,bG,J,U,aq,aK,bx,rfl⟩ af lS aw
  refine⟨r,hv,ch,f,L,cT,bG.b6 ?_ fun b ad=>aw b (by simp[ad]),by rw[aw bz aM];exact J,by rw[aw ch aM];exact U,aq,aK,bx,rfl⟩
  rw[af (p.aP,gn p an ar) (by simp[jJ]),lS (p.aP,gn p an ar) (by simp[jJ])]
 u5:=by
  rintro g g' fl bz b8 r ⟨ak,gP⟩ af lS aw
  have aj:g' p.aP=g p.aP:=by rw[af (p.aP,gn p an ar) (by simp[jJ]),lS (p.aP,gn p an ar) (by simp[jJ])]
  refine⟨?_,gP⟩
  cases r with
  |take u=>
   obtain⟨r,hv,ch,k,f0,f,L,cT,bG,J,U,aq,aK,bx,cp,fI,mI,p1,rfl⟩:=ak
   exact⟨r,hv,ch,k,f0,f,L,cT,bG.b6 aj fun b ad=>aw b (by simp[ad]),by rw[aw bz aM];exact J,by rw[aw ch aM];exact U,by rw[aw b8 aM];exact aq,aK,bx,cp,fI,mI,p1,rfl⟩
  |leave room e d=>
   obtain⟨k,f,bG,J,U,rfl⟩:=ak
   exact⟨k,f,bG.b6 aj fun b ad=>aw b (by simp at ad;simp[ad]),by rw[aw b8 aM];exact J,U,rfl⟩
 G2:=by
  rintro g g' fl x l ⟨r,f,L,rfl,bG⟩ af lS aw
  exact⟨r,f,L,rfl,bG.b6 (by rw[af (p.aP,gn p an ar) (by simp[jJ]),lS (p.aP,gn p an ar) (by simp[jJ])]) aw⟩
 E4:=by
  rintro g fl bz v ⟨r,hv,ch,f,L,cT,bG,J,U,aq,aK,bx,rfl⟩
  simp
 Ev af a3 ap hU ah:=ayH (fun q av=>af q (List.mem_append.2 (.inl av))) a3 ap ⟨hU.1,I⟩ ah
 NI af a3 ap bf h av bO ah:=ayK (fun q av=>af q (List.mem_append.2 (.inl av))) a3 ap bf h av bO ah
 Lu a3 h aH aA ah:=ayC h aH aA ah a3
 BY af a3 ap bf h aH bg ah:=ayJ (fun q av=>af q (List.mem_append.2 (.inl av))) a3 ap bf h aH bg fun g' n' fl' b8 aV ak=>ah g' n' fl' b8 aV ⟨ak,by intro h;cases h⟩
 DT af a3 ap bf h aH _ ah:=ayE (fun q av=>af q (List.mem_append.2 (.inl av))) a3 ap bf h aH fun g' n' fl' b8 aV ak=>ah g' n' fl' b8 aV ⟨ak,trivial⟩
 HO af a3 ap bf h aH av bO ah:=ayI (Q:=fun a' r'=>_/\r'.rZ) (fun q av=>af q (List.mem_append.2 (.inl av))) a3 ap bf h.1 aH (aAX av) (fun a' r' h=>bO a' r' h.1) fun a' r' g' n' fl' fT aV ak=>ah a' r' g' n' fl' fT.1 aV ⟨ak,fT.2⟩
 M3:=by
  rintro g n a K fl bz b8 r ⟨ak,gP⟩ he aa ah
  cases r with
  |take u=>exact ayG ak (gP he) ah
  |leave room e d=>simp at aa
 MZ:=by
  rintro g fl bz b8 r v ⟨ak,gP⟩ aH hv
  cases r with
  |take u=>simp only[Option.some.injEq]at hv;subst hv;exact ayB ak aH
  |leave room e d=>simp at hv
 Bt af a3 ap hv ah:=ayD (fun q av=>af q (List.mem_append.2 (.inl av))) a3 ap hv cy ah
 Bx af a3 ap bf h aH av bO ah:=ayF (fun q av=>af q (List.mem_append.2 (.inl av))) a3 ap bf h aH av bO ah
inductive pR where
 |load
 |key
 |cell
 |jo (aO:Nat) (w:Int)
 |j9 (aO:Nat) (w x:Int)
 |more
 |done
def pR.nx(u:c3):pR->gl
 | .load=>.ld u.bk u.bo (.lf .a1)
 | .key=>.ld u.a7 0 (.pJ .a1)
 | .cell=>.ld u.a7 1 .cell
 | .jo aO w=>.ld u.a7 2 (.rc (.tR aO w))
 | .j9 aO w x=>.bX u.bk u.bo x (.tR aO w)
 | .more=>.more iw
 | .done=>.none
def ra(p:ff)(a:aE)(u:c3)(aY:pR)(Q:aE->c3->pR->Prop):Prop:=
 match aY with
 | .load=>∃w,a.at_ u.bk u.bo w/\w≠0/\Q a.tick {u with a7:=IntKind.wrap .i64 w} .key
 | .key=>∃w,a.at_ u.a7 0 w/\(w=u.key->Q a.tick u .cell)/\(w≠u.key->Q a.tick {u with eo:=u.bk,ep:=u.bo,bk:=u.a7,bo:=2} .load)
 | .cell=>∃w,a.at_ u.a7 1 w/\∀aO,Q a.tick {u with bH:=true,aO:=some aO} (.jo aO w)
 | .jo aO w=>∃x,a.at_ u.a7 2 x/\Q a.tick u (.j9 aO w x)
 | .j9 aO w x=>dZ x/\(∃w0,a.at_ u.bk u.bo w0)/\(a.put u.bk u.bo x).m.has u.a7/\(∀y∈a.queue,y.h≠u.a7)/\a.queue.length<40000/\∀b bC fl' c_,Q (((a.put u.bk u.bo x).push u.a7 b bC fl').cX c_) u .more
 | .more=>∃w,a.at_ p.R 3 w/\Q (a.put p.R 3 (fy w iw iw)) {u with cJ:=true} .done
 | .done=>False
inductive kV where
 |draw
 |wait (bK:Int)
 |load
 |key
 |bZ
 |cut (last:Int)
 |rV (d:Option Int)
 |tB (d:Option Int)
 |tZ (d:Option Int)
 |mw (d:Option Int) (w:Int)
 |sV (d:Option Int)
 |set
 |jo
 |j9 (x:Int)
 |tY
 |tW (x:Int)
 |tX
 |more
 |drop
 |done
def lI:Option Int->li
 |none=>.uT
 |some last=>.oz last
def kV.nx(R:Int)(u:c3):kV->gl
 | .draw=>.draw
 | .wait bK=>.wait bK
 | .load=>.ld u.bk u.bo (.lf .a1)
 | .key=>.ld u.a7 0 (.pJ .a1)
 | .bZ=>.ld R 3 .bZ
 | .cut last=>.bX u.eo u.ep 0 (.cut last)
 | .rV d=>.bX u.made 0 u.key (.rR (lI d))
 | .tB d=>.bX u.made 1 u.val (.vb (lI d))
 | .tZ d=>.ld R 2 (.r7 u.made (.sD (lI d)))
 | .mw d w=>.bX u.made 2 w (.mw u.made (.sD (lI d)))
 | .sV d=>.bX R 2 (IntKind.wrap .u64 u.made) (.sD (lI d))
 | .set=>.bX u.a7 1 u.val .set
 | .jo=>.ld u.a7 2 (.rc .sS)
 | .j9 x=>.bX u.bk u.bo x .sS
 | .tY=>.ld R 2 (.r7 u.a7 .s7)
 | .tW x=>.bX u.a7 2 x (.mw u.a7 .s7)
 | .tX=>.bX R 2 (IntKind.wrap .u64 u.a7) .s7
 | .more=>.more 1
 | .drop=>.drop
 | .done=>.none
def kO(p:ff)(a:aE)(u:c3)(aY:kV)(Q:aE->c3->kV->Prop):Prop:=
 match aY with
 | .draw=>∃w,a.at_ p.R 0 w/\Q (a.put p.R 0 (fy w iw 1)) u (.wait w)
 | .wait bK=>∃w,a.at_ p.R 1 w/\(w≠bK->Q a.tick u (.wait bK))/\(w=bK->Q a.tick {u with bk:=p.R,bo:=2} .load)
 | .load=>∃w,a.at_ u.bk u.bo w/\(w=0->Q a.tick {u with a7:=0} .bZ)/\(w≠0->Q a.tick {u with a7:=IntKind.wrap .i64 w} .key)
 | .key=>∃w,a.at_ u.a7 0 w/\(w=u.key->Q a.tick u .set)/\(w≠u.key->Q a.tick {u with eo:=u.bk,ep:=u.bo,bk:=u.a7,bo:=2} .load)
 | .bZ=>(0<=p.E/\p.E<1000)/\(0<=a.m.made/\a.m.made<1000000000)/\∃w,a.at_ p.R 3 w/\(a.m.room<3->Q a.tick {u with bH:=true,aO:=none} .drop)/\
  (3<=a.m.room->w<p.E->∀b,Q (a.tick.make 3 b) {u with made:=a.m.made+1} (.rV none))/\(3<=a.m.room->¬w<p.E->∀b,Q (a.tick.make 3 b) {u with made:=a.m.made+1} (.cut u.bk))
 | .cut last=>(∃w0,a.at_ u.eo u.ep w0)/\Q (a.put u.eo u.ep 0) u (.rV (some last))
 | .rV d=>dZ u.key/\(∃w0,a.at_ u.made 0 w0)/\Q (a.put u.made 0 u.key) u (.tB d)
 | .tB d=>dZ u.val/\(∃w0,a.at_ u.made 1 w0)/\Q (a.put u.made 1 u.val) u (.tZ d)
 | .tZ d=>∃w,a.at_ p.R 2 w/\Q a.tick u (.mw d w)
 | .mw d w=>dZ w/\(∃w0,a.at_ u.made 2 w0)/\Q (a.put u.made 2 w) u (.sV d)
 | .sV none=>(∃w0,a.at_ p.R 2 w0)/\Q (a.put p.R 2 (IntKind.wrap .u64 u.made)) {u with bH:=true,aO:=none} .more
 | .sV (some last)=>(∃w0,a.at_ p.R 2 w0)/\(a.put p.R 2 (IntKind.wrap .u64 u.made)).m.has last/\(∀x∈a.queue,x.h≠last)/\a.queue.length<40000/\∀b bC fl' c_,Q (((a.put p.R 2 (IntKind.wrap .u64 u.made)).push last b bC fl').cX c_) {u with bH:=true,aO:=none} .drop
 | .set=>dZ u.val/\(∃w0,a.at_ u.a7 1 w0)/\(u.bk=p.R/\u.bo=2->Q (a.put u.a7 1 u.val) {u with bH:=true,aO:=none} .drop)/\(¬(u.bk=p.R/\u.bo=2)->Q (a.put u.a7 1 u.val) {u with bH:=true,aO:=none} .jo)
 | .jo=>∃w,a.at_ u.a7 2 w/\Q a.tick u (.j9 w)
 | .j9 x=>dZ x/\(∃w0,a.at_ u.bk u.bo w0)/\Q (a.put u.bk u.bo x) u .tY
 | .tY=>∃w,a.at_ p.R 2 w/\Q a.tick u (.tW w)
 | .tW x=>dZ x/\(∃w0,a.at_ u.a7 2 w0)/\Q (a.put u.a7 2 x) u .tX
 | .tX=>(∃w0,a.at_ p.R 2 w0)/\Q (a.put p.R 2 (IntKind.wrap .u64 u.a7)) u .drop
 | .more=>∃w,a.at_ p.R 3 w/\Q (a.put p.R 3 (fy w iw 1)) u .drop
 | .drop=>∃w,a.at_ p.R 1 w/\Q (a.put p.R 1 (fy w iw 1)) {u with cJ:=true} .done
 | .done=>False
def aub(k:Int)(s:Bool)(Q:aE->c3->pR->Prop):aE->c3->gl->Prop:=fun a u nx=>∃aY,nx=pR.nx u aY/\u.kind=k/\u.stays=s/\Q a u aY
theorem aIn{p:ff}{a:aE}{u:c3}{aY:pR}{Q:aE->c3->pR->Prop}(ah:u.kind=5)(aa:u.stays=true)(h:ra p a u aY Q):pA p a u (aY.nx u) (aub 5 true Q):=by
 cases aY<;>simp only[ra]at h<;>simp only[pR.nx,pA,lw,fa]
 .obtain⟨w,J,U,aq⟩:=h
  exact⟨w,J,fun e=>absurd e U,fun _=>⟨.key,rfl,ah,aa,aq⟩⟩
 .obtain⟨w,J,U,aq⟩:=h
  exact⟨w,J,.inr ah,fun _ e=>I,fun e _=>⟨.cell,rfl,ah,aa,U e⟩,fun e=>⟨.load,rfl,ah,aa,aq e⟩⟩
 .obtain⟨w,J,U⟩:=h
  exact⟨w,J,fun aO=>⟨.jo aO w,rfl,ah,aa,U aO⟩⟩
 .obtain⟨x,J,U⟩:=h
  exact⟨x,J,⟨.j9 _ _ x,rfl,ah,aa,U⟩⟩
 .obtain⟨J,U,aq,aK,bx,cp⟩:=h
  exact⟨J,U,aq,aK,bx,fun b bC fl c_=>⟨.more,rfl,ah,aa,cp b bC fl c_⟩⟩
 .obtain⟨w,J,U⟩:=h
  exact⟨w,J,fun _=>⟨.done,rfl,ah,aa,U⟩,fun e=>by rw[aa]at e;cases e⟩
def auc(R:Int)(Q:aE->c3->kV->Prop):aE->c3->gl->Prop:=fun a u nx=>∃aY,nx=kV.nx R u aY/\u.kind=2/\u.stays=false/\Q a u aY
theorem aDf{p:ff}{a:aE}{u:c3}{aY:kV}{Q:aE->c3->kV->Prop}(ah:u.kind=2)(aa:u.stays=false)(h:kO p a u aY Q):pA p a u (aY.nx p.R u) (auc p.R Q):=by
 have Hj:¬u.stays=true:=by rw[aa];simp
 cases aY<;>simp only[kO]at h<;>simp only[kV.nx,pA,lw,fa]
 case draw=>obtain⟨w,J,U⟩:=h;exact⟨w,J,⟨.wait w,rfl,ah,aa,U⟩⟩
 case wait bK=>obtain⟨w,J,U,aq⟩:=h;exact⟨.inl ah,w,J,fun e=>⟨.wait bK,rfl,ah,aa,U e⟩,fun e=>⟨.load,rfl,ah,aa,aq e⟩⟩
 case load=>obtain⟨w,J,U,aq⟩:=h;exact⟨w,J,fun e=>⟨ah,.bZ,rfl,ah,aa,U e⟩,fun e=>⟨.key,rfl,ah,aa,aq e⟩⟩
 case key=>obtain⟨w,J,U,aq⟩:=h;exact⟨w,J,.inl ah,fun e _=>⟨.set,rfl,ah,aa,U e⟩,fun _ e=>I,fun e=>⟨.load,rfl,ah,aa,aq e⟩⟩
 case bZ=>obtain⟨J,U,w,aq,aK,bx,cp⟩:=h;exact⟨w,aq,J,U,aa,fun e=>⟨.drop,rfl,ah,aa,aK e⟩,fun aD aJ b=>⟨.rV none,rfl,ah,aa,bx aD aJ b⟩,fun aD aJ b=>⟨.cut u.bk,rfl,ah,aa,cp aD aJ b⟩⟩
 case cut last=>obtain⟨J,U⟩:=h;exact⟨⟨I,I⟩,J,⟨.rV (some last),rfl,ah,aa,U⟩⟩
 case rV d=>obtain⟨a5,J,U⟩:=h;exact⟨a5,J,⟨.tB d,rfl,ah,aa,U⟩⟩
 case tB d=>obtain⟨a5,J,U⟩:=h;exact⟨a5,J,⟨.tZ d,rfl,ah,aa,U⟩⟩
 case tZ d=>obtain⟨w,J,U⟩:=h;exact⟨w,J,⟨.mw d w,rfl,ah,aa,U⟩⟩
 case mw d w=>obtain⟨a5,J,U⟩:=h;exact⟨a5,J,⟨.sV d,rfl,ah,aa,U⟩⟩
 case sV d=>
  cases d with
  |none=>simp only[lI,fa]at h |-;obtain⟨J,U⟩:=h;exact⟨vd _,J,⟨.more,rfl,ah,aa,U⟩⟩
  |some last=>simp only[lI,fa]at h |-;obtain⟨J,U,aq,aK,bx⟩:=h;exact⟨vd _,J,U,aq,aK,fun b bC fl c_ e=>absurd e Hj,fun b bC fl c_ _=>⟨.drop,rfl,ah,aa,bx b bC fl c_⟩⟩
 case set=>obtain⟨a5,J,U,aq⟩:=h;exact⟨a5,J,fun _ e=>absurd e Hj,fun e _=>⟨.drop,rfl,ah,aa,U e⟩,fun e=>⟨.jo,rfl,ah,aa,aq e⟩⟩
 case jo=>obtain⟨w,J,U⟩:=h;exact⟨w,J,⟨.j9 w,rfl,ah,aa,U⟩⟩
 case j9 x=>obtain⟨a5,J,U⟩:=h;exact⟨a5,J,⟨.tY,rfl,ah,aa,U⟩⟩
 case tY=>obtain⟨w,J,U⟩:=h;exact⟨w,J,⟨.tW w,rfl,ah,aa,U⟩⟩
 case tW x=>obtain⟨a5,J,U⟩:=h;exact⟨a5,J,⟨.tX,rfl,ah,aa,U⟩⟩
 case tX=>obtain⟨J,U⟩:=h;exact⟨vd _,J,fun e=>absurd e Hj,fun _=>⟨.drop,rfl,ah,aa,U⟩⟩
 case more=>obtain⟨w,J,U⟩:=h;exact⟨w,J,fun e=>absurd e Hj,fun _=>⟨.drop,rfl,ah,aa,U⟩⟩
 case drop=>obtain⟨w,J,U⟩:=h;exact⟨w,J,⟨.done,rfl,ah,aa,U⟩⟩
section
structure pk where
 u:c3
 aY:qB
 ks:List Int
inductive LT where
 |take (v:pk) (u:c3) (aY:pR)
 |leave (u:c3) (d:Bool)
def LT.u:LT->c3
 | .take _ u _=>u
 | .leave u _=>u
section
variable(p:ff)(an ar cx:Nat)
def lJ:List (Nat×bt):=[(p.aP,fK p an ar),(cx,.al false [.ptr p.aP 0])]
def tD(g:G)(fl:List Nat)(bz:Nat)(v:pk):Prop:=∃r hv ch cT,m0 p an ar g cT r hv v.u (v.aY.nx hv v.u) v.ks/\v.u.cJ=v.aY.hL/\g bz=some (q2 107 r hv ch)/\g ch=some (.al false [.ptr hv 0])/\bz∉cT/\ch∉cT/\bz≠ch/\p.aP∉cT/\fl=bz::ch::cT
def LI(d:Bool):gl:=if d then .none else .drop
def Bw(g:G)(fl:List Nat)(bz b8:Nat):LT->Prop
 | .take v u aY=>∃k f cT gI,tD p an ar g cT bz v/\v.aY.hL=true/\dH p an ar .a1 g gI k u (aY.nx u) f/\u.kind=5/\u.stays=true/\g b8=some (.al false [.iface 207 (.ptr k 0)])/\b8∉cT/\b8∉gI/\(∀b∈gI,b∉cT)/\fl=b8::(gI++cT)
 | .leave u d=>∃k f gI,dH p an ar .a1 g gI k u (LI d) f/\u.cJ=d/\g b8=some (.al false [.iface 207 (.ptr k 0)])/\b8∉gI/\fl=b8::gI
def G_(g:G)(fl:List Nat)(x:V)(l:c3×kV):Prop:=∃r f,x= .iface 207 (.ptr r 0)/\dH p an ar .a1 g fl r l.1 (l.2.nx p.R l.1) f/\l.1.kind=2/\l.1.stays=false/\p.aP∉fl
end
section
variable{p:ff}{an ar cx:Nat}{g:G}{n:Nat}{a:aE}{K:cj aE}{fl:List Nat}
theorem dH.si{e:jw}{r:Nat}{u:c3}{nx:gl}{f:bu}(h:dH p an ar e g fl r u nx f):dH p an ar e (a1 g r (.al false {f with effect:=.bool false}.l)) fl r {u with bH:=false} nx {f with effect:=.bool false}:=by
 obtain⟨a0,ak,dk,aj,df,eM,az⟩:=h
 have aw:∀b,b≠r->(a1 g r (.al false {f with effect:=.bool false}.l)) b=g b:=fun b ad=>by rw[bJ,if_neg (fun e=>ad e.symm)]
 have gA:∀{x:Nat} {l:List V},dI g fl r x l->dI (a1 g r (.al false {f with effect:=.bool false}.l)) fl r x l:=fun h=>h.mono (fun x aj=>aj) fun x _ iL=>aw x iL
 have hm:∀x∈fl,x≠r->(a1 g r (.al false {f with effect:=.bool false}.l)) x=g x:=fun x _ iL=>aw x iL
 refine⟨⟨a0.x,a0.hX,a0.g5,a0.h_,a0.val,rfl,a0.done,a0.stays,a0.bk,a0.bo,a0.eo,a0.ep,a0.a7,a0.made,a0.j8⟩,by rw[bJ,if_pos rfl],dk,by rw[aw _ df];exact aj,df,eM,?_⟩
 cases nx with
 |draw=>obtain⟨b,c,t,ch,J,U,aq,aK,bx,cp,fI,mI,p1,yT⟩:=az;exact⟨b,c,t,ch,J,gA U,gA aq,aK.mono (fun x aj=>aj) hm,bx,cp,fI,mI,by rw[aw _ fI];exact p1,yT⟩
 |wait bK=>obtain⟨b,c,t,ch,J,U,aq,aK,bx,cp,fI,mI,p1,yT⟩:=az;exact⟨b,c,t,ch,J,gA U,gA aq,aK.mono (fun x aj=>aj) hm,bx,cp,fI,mI,by rw[aw _ fI];exact p1,yT⟩
 |ld h i k=>obtain⟨nK,qg,pz,ca,J,U,aq,aK,bx⟩:=az;exact⟨nK,qg,pz,ca,J,gA U,gA aq,gA aK,bx.mono (fun x aj=>aj) hm⟩
 |bX h i w k=>obtain⟨sO,wK,wL,wM,ca,J,U,aq,aK,bx,cp⟩:=az;exact⟨sO,wK,wL,wM,ca,J,gA U,gA aq,gA aK,gA bx,cp.mono (fun x aj=>aj) hm⟩
 |drop=>obtain⟨b,J,U⟩:=az;exact⟨b,J,gA U⟩
 |more w=>obtain⟨b,c,J,U,aq⟩:=az;exact⟨b,c,J,gA U,gA aq⟩
 |none=>trivial
theorem dH.b6{e:jw}{r:Nat}{u:c3}{nx:gl}{f:bu}{g':G}(h:dH p an ar e g fl r u nx f)(DM:g' p.aP=g p.aP)(aw:∀b∈fl,g' b=g b):dH p an ar e g' fl r u nx f:=by
 obtain⟨a0,ak,dk,aj,df,eM,az⟩:=h
 have gA:∀{x:Nat} {l:List V},dI g fl r x l->dI g' fl r x l:=fun h=>h.mono (fun x aj=>aj) fun x aj _=>aw x aj
 have hm:∀x∈fl,x≠r->g' x=g x:=fun x aj _=>aw x aj
 refine⟨a0,by rw[aw r dk];exact ak,dk,by rw[DM];exact aj,df,eM,?_⟩
 cases nx with
 |draw=>obtain⟨b,c,t,ch,J,U,aq,aK,bx,cp,fI,mI,p1,yT⟩:=az;exact⟨b,c,t,ch,J,gA U,gA aq,aK.mono (fun x aj=>aj) hm,bx,cp,fI,mI,by rw[aw _ mI];exact p1,yT⟩
 |wait bK=>obtain⟨b,c,t,ch,J,U,aq,aK,bx,cp,fI,mI,p1,yT⟩:=az;exact⟨b,c,t,ch,J,gA U,gA aq,aK.mono (fun x aj=>aj) hm,bx,cp,fI,mI,by rw[aw _ mI];exact p1,yT⟩
 |ld h i k=>obtain⟨nK,qg,pz,ca,J,U,aq,aK,bx⟩:=az;exact⟨nK,qg,pz,ca,J,gA U,gA aq,gA aK,bx.mono (fun x aj=>aj) hm⟩
 |bX h i w k=>obtain⟨sO,wK,wL,wM,ca,J,U,aq,aK,bx,cp⟩:=az;exact⟨sO,wK,wL,wM,ca,J,gA U,gA aq,gA aK,gA bx,cp.mono (fun x aj=>aj) hm⟩
 |drop=>obtain⟨b,J,U⟩:=az;exact⟨b,J,gA U⟩
 |more w=>obtain⟨b,c,J,U,aq⟩:=az;exact⟨b,c,J,gA U,gA aq⟩
 |none=>trivial
theorem m0.b6{r hv:Nat}{u:c3}{nx:gl}{ks:List Int}{g':G}(h:m0 p an ar g fl r hv u nx ks)(DM:g' p.aP=g p.aP)(aw:∀b∈fl,g' b=g b):m0 p an ar g' fl r hv u nx ks:=by
 obtain⟨cT,f,kv,kf,bG,J,U,aq,aK,bx,cp,fI,rfl⟩:=h
 exact⟨cT,f,kv,kf,bG.b6 DM fun b ad=>aw b (by simp[ad]),by rw[aw hv aM];exact J,U.b6 fun b ad=>aw b (by simp[ad]),aq,aK,bx,cp,fI,rfl⟩
theorem m0.si{r hv:Nat}{u:c3}{nx:gl}{ks:List Int}{f:bu}(h:m0 p an ar g fl r hv u nx ks)(aV:g r=some (.al false f.l)):m0 p an ar (a1 g r (.al false {f with effect:=.bool false}.l)) fl r hv {u with bH:=false} nx ks:=by
 obtain⟨cT,cn,kv,kf,bG,J,U,aq,aK,bx,cp,fI,rfl⟩:=h
 have vQ:cn.l=f.l:=by have:=bG.ak;rw[aV]at this;simp only[Option.some.injEq,bt.al.injEq,true_and]at this;exact this.symm
 have azL:cn=f:=by
  cases f;cases cn
  simp only[bu.l,List.cons.injEq,and_true]at vQ
  simp only[bu.mk.injEq];exact vQ
 subst azL
 have xy:hv≠r:=fun e=>aq (e▸bG.dk)
 refine⟨cT,_,kv,kf,bG.si,by rw[bJ,if_neg (fun e=>xy e.symm)];exact J,U.b6 fun b ad=>?_,aq,aK,bx,cp,fI,rfl⟩
 have jf:¬r=b:=fun e=>bx b ad (e▸bG.dk)
 rw[bJ,if_neg jf]
theorem tD.b6{bz:Nat}{v:pk}{g':G}(h:tD p an ar g fl bz v)(DM:g' p.aP=g p.aP)(aw:∀b∈fl,g' b=g b):tD p an ar g' fl bz v:=by
 obtain⟨r,hv,ch,cT,bG,aH,J,U,aq,aK,bx,cp,rfl⟩:=h
 exact⟨r,hv,ch,cT,bG.b6 DM fun b ad=>aw b (by simp[ad]),aH,by rw[aw bz aM];exact J,by rw[aw ch aM];exact U,aq,aK,bx,cp,rfl⟩
end
end
section
variable{p:ff}{an ar cx:Nat}{g:G}{n:Nat}{a:aE}{K:cj aE}
theorem aDN(hv:Nat)(u:c3)(aY:qB)(b:Bool):aY.nx hv {u with bH:=b}=aY.nx hv u:=by cases aY<;>rfl
theorem aIp(u:c3)(aY:pR)(b:Bool):aY.nx {u with bH:=b}=aY.nx u:=by cases aY<;>rfl
theorem aIM(R:Int)(u:c3)(aY:kV)(b:Bool):aY.nx R {u with bH:=b}=aY.nx R u:=by cases aY<;>rfl
def wV:c3:=⟨0,0,0,false,0,0,0,0,0,0,false,false,none⟩
theorem m0.fn{r hv:Nat}{u:c3}{nx:gl}{ks:List Int}{fl:List Nat}(h:m0 p an ar g fl r hv u nx ks):hv∈fl/\r∈fl/\∃kv,g hv=some (.al false [.ptr r 0,kv]):=by
 obtain⟨cT,f,kv,kf,bG,J,U,aq,aK,bx,cp,fI,rfl⟩:=h
 exact⟨aM,by simp[bG.dk],kv,J⟩
theorem aCB{k:Int}(cC:ey (lJ p an ar cx) g)(a3:a.an=an/\a.ar=ar)(ap:bm g n)
 (ah:∀g' n' fl bz,Fr g g' n n' [] fl->tD p an ar g' fl bz ⟨wV,.draw,[]⟩->K (.ptr bz 0) g' n' a):eG (.fn (.func 105) [] [.ptr cx 0]) [.int .i64 k] g n a K:=by
 obtain⟨rfl,rfl⟩:=a3
 have aD:g p.aP=some (fK p a.an a.ar):=cC (p.aP,fK p a.an a.ar) (by simp[lJ])
 have aJ:g cx=some (.al false [.ptr p.aP 0]):=cC (cx,.al false [.ptr p.aP 0]) (by simp[lJ])
 have aDt:=ap _ _ aD
 refine⟨_,_,_,rfl,?_⟩
 refine bE i105 fun N aF=>?_
 refine aL Oh aJ ?_
 refine aC7 aD (ap.mono I) fun bY bq r hv cT g4 bG cE c5=>?_
 intro dE
 have a5:=bG
 obtain⟨QR,eI,kv,Qw⟩:=bG.fn
 have cV:r<bq:=(cE r eI).2
 have kM:hv<bq:=(cE hv QR).2
 refine aL (aN adk.eq_1 Oh) (d' Qw (ag (I:r<bq)) (ag (I:hv<bq)) (ag (I:bq<bq+1)) (ag (I:r<bq+1)) (ag (I:hv<bq+1))) ?_
 apply aF
 refine a6 i105.eq_1 ?_
 intro _
 refine .all (ah _ _ ((bq+12)::bq::cT) (bq+12) ⟨I,fun b ad=>?_,fun b ad=>?_,fun b ad bI=>?_⟩ ⟨r,hv,bq,cT,a5.b6 ?_ fun b ad=>?_,rfl,?_,?_,fun hm=>?_,fun hm=>?_,I,fun hm=>?_,rfl⟩)
 .simp only[List.mem_cons]at ad
  rcases ad with rfl|rfl|ad
  .omega
  .omega
  .have:=(cE b ad).2;omega
 .simp only[List.mem_cons]at ad
  rcases ad with rfl|rfl|ad
  .exact .inr I
  .exact .inr I
  .exact .inr (by have:=(cE b ad).1;omega)
 .rw[<-c5 b I]
  exact bc (ag (I:b<bq))
 .exact bc (ag (I:p.aP<bq))
 .have:=(cE b ad).2
  exact bc (ag (I:b<bq))
 .exact bc (cw q2.eq_1 (ag (I:r<bq)) (ag (I:hv<bq)))
 .exact bc (aN (ag (I:r<bq)) (ag (I:hv<bq)))
 .have:=(cE _ hm).2;omega
 .have:=(cE _ hm).2;omega
 .have:=(cE _ hm).1;omega
abbrev N1(r:Nat)(K:cj aE):cj aE:=fun _ g' n' a'=>∃(cn:bu) (e d:Bool),g' r=some (.al false cn.l)/\cn.effect= .bool e/\cn.done= .bool d/\∀aT,n'<=aT->(bm g' aT->K (.bN [.bool e,.bool d]) g' aT a')
theorem m0.run{r hv:Nat}{u:c3}{nx:gl}{ks:List Int}{fl:List Nat}(h:m0 p an ar g fl r hv u nx ks):∃f:bu,g r=some (.al false f.l)/\f.effect= .bool u.bH/\f.done= .bool u.cJ:=by
 obtain⟨cT,f,kv,kf,bG,_⟩:=h
 exact⟨f,bG.ak,bG.a0.bH,bG.a0.done⟩
theorem aCE{fl:List Nat}{bz:Nat}{v:pk}{Q:aE->pk->Prop}(cC:ey (lJ p an ar cx) g)(a3:a.an=an/\a.ar=ar)(ap:bm g n)(bf:∀b∈fl,b<n)(h:tD p an ar g fl bz v)(av:pB p a {v.u with bH:=false} v.aY v.ks (fun a' bj dV k8=>Q a' ⟨bj,dV,k8⟩))(bO:∀a' v',Q a' v'->(a'.an=an/\a'.ar=ar)/\v'.u.cJ=v'.aY.hL)
 (ah:∀a' v' g' n' fl',Q a' v'->Fr g g' n n' fl fl'->tD p an ar g' fl' bz v'->K (.bN [.bool v'.u.bH,.bool v'.u.cJ]) g' n' a'):aR ct bA 185 [.ptr bz 0] g n a K:=by
 obtain⟨rfl,rfl⟩:=a3
 obtain⟨r,hv,ch,cT,bG,di,hQ,gp,iI,hF,qa,vY,rfl⟩:=h
 have aD:g p.aP=some (fK p a.an a.ar):=cC (p.aP,fK p a.an a.ar) (by simp[lJ])
 have da:=ap _ _ aD
 have mm:=ap _ _ hQ
 have cF:=ap _ _ gp
 have nG:=hQ
 simp only[q2]at nG
 obtain⟨f,ak,AY,Dq⟩:=bG.run
 have gO:v.aY.hL=false:=by
  cases aB:v.aY<;>simp only[pB,aB]at av<;>first|rfl|exact av.elim
 have aH:f.done= .bool false:=by rw[Dq,di,gO]
 obtain⟨QR,wI,kv,Qw⟩:=bG.fn
 have a5:=bG.si ak
 rw[<-aDN hv v.u v.aY false]at a5
 have rF:bm (a1 g r (.al false {f with effect:=.bool false}.l)) n:=ap.a1 (ap _ _ ak) _
 have jA:bz≠r:=fun e=>iI (e▸wI)
 have kg:ch≠r:=fun e=>hF (e▸wI)
 have uE:∀b∈cT,b<n:=fun b ad=>bf b (by simp[ad])
 have l0:∀a' bj dV k8,Q a' ⟨bj,dV,k8⟩->mx p (a1 g r (.al false {f with effect:=.bool false}.l)) n cT r hv (N1 r K) bj (dV.nx hv bj) k8 a':=by
  intro a' bj dV k8 fT g' n' fl' az hK lU cE aw
  obtain⟨cn,ke,azK,azJ⟩:=hK.run
  obtain⟨⟨c6,cO⟩,fc⟩:=bO a' _ fT
  rw[c6,cO]at hK
  refine⟨cn,_,_,ke,azK,azJ,fun aT cB dC=>ah a' ⟨bj,dV,k8⟩ g' aT (bz::ch::fl') fT ⟨I,fun b ad=>?_,fun b ad=>?_,fun b ad bI=>?_⟩ ⟨r,hv,ch,fl',hK,fc,?_,?_,fun hm=>?_,fun hm=>?_,qa,fun hm=>?_,rfl⟩⟩
  .simp only[List.mem_cons]at ad
   rcases ad with rfl|rfl|ad
   .omega
   .omega
   .have:=lU b ad;omega
  .simp only[List.mem_cons]at ad |-
   rcases ad with rfl|rfl|ad
   .exact .inl (.inl rfl)
   .exact .inl (.inr (.inl rfl))
   .rcases cE b ad with h|h
    .exact .inl (.inr (.inr h))
    .exact .inr h
  .simp only[List.mem_cons,not_or]at bI
   have jf:¬r=b:=fun e=>bI.2.2 (e▸wI)
   rw[aw b ad bI.2.2,bJ,if_neg jf]
  .rw[aw bz mm iI,bJ,if_neg (fun e=>jA e.symm)];exact hQ
  .rw[aw ch cF hF,bJ,if_neg (fun e=>kg e.symm)];exact gp
  .rcases cE _ hm with h|h
   .exact iI h
   .omega
  .rcases cE _ hm with h|h
   .exact hF h
   .omega
  .rcases cE _ hm with h|h
   .exact vY h
   .omega
 obtain⟨f2,fQ,qQ,id,first,cap,jh,gW⟩:=aDn a5 rF uE av l0
 have vQ:f2.l={f with effect:=.bool false}.l:=by
  rw[bJ,if_pos rfl]at fQ
  simp only[Option.some.injEq,bt.al.injEq,true_and]at fQ;exact fQ.symm
 have wa:f.next= .fn (.func id) first cap:=by
  have:f2.next=f.next:=by
   have J:f2.l[11]? =some f2.next:=rfl
   have U:({f with effect:=.bool false}:bu).l[11]? =some f.next:=rfl
   rw[vQ,U]at J;simpa using J.symm
  rw[<-this];exact jh
 refine p0 ?_
 refine bE i185 fun N aF=>?_
 refine aL Ft nG ?_
 refine Bx ak aH wa (aR.mono gW fun v2 ba aT b7 cB eJ=>?_)
 obtain⟨cn,e,d,J,U,aq,aK⟩:=eJ
 refine⟨cn,e,d,J,U,aq,fun cq iJ=>?_⟩
 intro gB
 refine dl (aN Mv.eq_1 Ft) ?_
 apply aF
 refine a6 i185.eq_1 ?_
 exact fun _=>.all fun _=>aK cq iJ gB
theorem aCw{fl:List Nat}{bz:Nat}{v:pk}(h:tD p an ar g fl bz v)(aA:v.ks.length<100000)
 (ah:∀g' n' kv kf,n<=n'->iG g' kv (words v.ks) kf->(∀b∈kf,n<=b)->(∀b,b<n->g' b=g b)->K kv g' n' a) (a3:a.an=an/\a.ar=ar):aR ct bA 186 [.ptr bz 0] g n a K:=by
 obtain⟨rfl,rfl⟩:=a3
 obtain⟨r,hv,ch,cT,bG,di,hQ,gp,iI,hF,qa,vY,rfl⟩:=h
 simp only[q2]at hQ
 refine bE i186 fun N aF=>?_
 refine aL Fu hQ ?_
 refine aCT bG aA fun g' n' og fl' az rM cE aw=>?_
 intro cf
 refine dl (aN Mw.eq_1 Fu) ?_
 apply aF
 refine a6 i186.eq_1 ?_
 exact fun _=>.all (ah _ _ _ _ I rM (fun b ad=>by have:=cE b ad;omega) fun b ad=>aw b I)
end
section
section
variable{p:ff}{an ar cx:Nat}{g:G}{n:Nat}{a:aE}{K:cj aE}
theorem aCD{fl:List Nat}{bz:Nat}{v:pk}{i:Nat}(cC:ey (lJ p an ar cx) g)(a3:a.an=an/\a.ar=ar)(ap:bm g n)(bf:∀b∈fl,b<n)(h:tD p an ar g fl bz v)(aH:v.u.cJ=true)(aC:i<v.ks.length/\v.ks.length<100000)
 (ah:∀g' n' fl' b8,Fr g g' n n' fl fl'->Bw p an ar g' fl' bz b8 (.take v ⟨v.ks.getD i 0,0,5,true,p.R,2,0,0,0,0,false,false,none⟩ .load)->K (.ptr b8 0) g' n' a):aR ct bA 254 [.ptr bz 0,.int .i64 i] g n a K:=by
 obtain⟨rfl,rfl⟩:=a3
 have sz:=h
 have aD:g p.aP=some (fK p a.an a.ar):=cC (p.aP,fK p a.an a.ar) (by simp[lJ])
 have da:=ap _ _ aD
 obtain⟨r,hv,ch,cT,bG,di,hQ,gp,iI,hF,qa,vY,cE⟩:=h
 have nG:=hQ
 simp only[q2]at nG
 have af:v.ks[i]? =some (v.ks.getD i 0):=by
  rw[List.getD_eq_getElem?_getD,List.getElem?_eq_getElem aC.1];rfl
 refine bE i254 fun N aF=>?_
 refine aL FA nG ?_
 refine bE i111 fun pO je=>?_
 refine aL Ol gp ?_
 refine aDc bG ap (fun b ad=>bf b (by rw[cE];simp[ad])) aC.2 af fun bY bq k gI f g4 o7 mM c5=>?_
 intro dE
 refine dl (aN adm.eq_1 Ol) ?_
 apply je
 refine a6 i111.eq_1 ?_
 intro _
 refine .all ?_
 intro dC
 refine dl (aN MC.eq_1 FA) ?_
 apply aF
 refine a6 i254.eq_1 ?_
 intro _
 refine .all (ah _ _ (bq::(gI++fl)) bq ⟨I,fun b ad=>?_,fun b ad=>?_,fun b ad bI=>?_⟩ ⟨k,f,fl,gI,sz.b6 ?_ fun b ad=>?_,by rw[<-di];exact aH,o7.b6 ?_ fun b ad=>?_,rfl,rfl,?_,fun hm=>?_,fun hm=>?_,fun b ad hm=>?_,rfl⟩)
 .simp only[List.mem_cons,List.mem_append]at ad
  rcases ad with rfl|ad|ad
  .omega
  .have:=(mM b ad).2;omega
  .have:=bf b ad;omega
 .simp only[List.mem_cons,List.mem_append]at ad
  rcases ad with rfl|ad|ad
  .exact .inr I
  .exact .inr (by have:=(mM b ad).1;omega)
  .exact .inl ad
 .rw[bJ,if_neg I,c5 b ad]
 .rw[bJ,if_neg I,c5 _ da]
 .have:=bf b ad
  rw[bJ,if_neg I,c5 _ this]
 .rw[bJ,if_neg I]
 .have:=(mM b ad).2
  rw[bJ,if_neg I]
 .exact dX
 .have:=bf _ hm;omega
 .have:=(mM _ hm).2;omega
 .have:=(mM _ ad).1;have:=bf _ hm;omega
theorem aCy{fl:List Nat}{bz:Nat}{v:pk}(cC:ey (lJ p an ar cx) g)(a3:a.an=an/\a.ar=ar)(ap:bm g n)(bf:∀b∈fl,b<n)(h:tD p an ar g fl bz v)
 (ah:∀g' n' fl' b8,Fr g g' n n' fl fl'->Bw p an ar g' fl' bz b8 (.leave wV false)->K (.ptr b8 0) g' n' a):aR ct bA 252 [.ptr bz 0] g n a K:=by
 obtain⟨rfl,rfl⟩:=a3
 have aD:g p.aP=some (fK p a.an a.ar):=cC (p.aP,fK p a.an a.ar) (by simp[lJ])
 have da:=ap _ _ aD
 obtain⟨r,hv,ch,cT,bG,di,hQ,gp,iI,hF,qa,vY,cE⟩:=h
 have nG:=hQ
 simp only[q2]at nG
 refine bE i252 fun N aF=>?_
 refine aL Fy nG ?_
 refine bE i113 fun pO je=>?_
 refine aL On gp ?_
 refine aCV bG ap fun bY bq k gI f g4 o7 mM c5=>?_
 intro dE
 refine dl (aN ado.eq_1 On) ?_
 apply je
 refine a6 i113.eq_1 ?_
 intro _
 refine .all ?_
 intro dC
 refine dl (aN MB.eq_1 Fy) ?_
 apply aF
 refine a6 i252.eq_1 ?_
 intro _
 refine .all (ah _ _ (bq::gI) bq ⟨I,fun b ad=>?_,fun b ad=>?_,fun b ad bI=>?_⟩ ⟨k,f,gI,o7.b6 ?_ fun b ad=>?_,rfl,?_,fun hm=>?_,rfl⟩)
 .simp only[List.mem_cons]at ad
  rcases ad with rfl|ad
  .omega
  .have:=(mM b ad).2;omega
 .simp only[List.mem_cons]at ad
  rcases ad with rfl|ad
  .exact .inr I
  .exact .inr (by have:=(mM b ad).1;omega)
 .rw[bJ,if_neg I,c5 b ad]
 .rw[bJ,if_neg I]
 .have:=(mM b ad).2
  rw[bJ,if_neg I]
 .exact dX
 .have:=(mM _ hm).2;omega
theorem Lz{fl:List Nat}{k:Nat}{u:c3}{nx:gl}{f:bu}{Q:aE->c3->gl->Prop}(a3:a.an=an/\a.ar=ar)(ap:bm g n)(bf:∀b∈fl,b<n)(h:dH p an ar .a1 g fl k u nx f)(di:u.cJ=false)(av:pA p a {u with bH:=false} nx Q)(bO:∀a' bj hi,Q a' bj hi->a'.an=an/\a'.ar=ar)
 (ah:∀a' bj hi g' n' fl' cn,Q a' bj hi->Fr g g' n n' fl fl'->dH p an ar .a1 g' fl' k bj hi cn->K (.bN [.bool bj.bH,.bool bj.cJ]) g' n' a'):aR ct bA 107 [.ptr k 0] g n a K:=by
 obtain⟨rfl,rfl⟩:=a3
 have ak:=h.ak
 have aH:f.done= .bool false:=by rw[h.a0.done,di]
 have a5:=h.si
 have rF:bm (a1 g k (.al false {f with effect:=.bool false}.l)) n:=ap.a1 (ap _ _ ak) _
 have l0:∀a' bj hi,Q a' bj hi->s4 p .a1 (a1 g k (.al false {f with effect:=.bool false}.l)) n fl k (N1 k K) bj hi a':=by
  intro a' bj hi fT g' n' fl' cn az hK lU cE aw
  obtain⟨c6,cO⟩:=bO _ _ _ fT
  rw[c6,cO]at hK
  refine⟨cn,_,_,hK.ak,hK.a0.bH,hK.a0.done,fun aT cB dC=>ah a' bj hi g' aT fl' cn fT ⟨I,fun b ad=>by have:=lU b ad;omega,cE,fun b ad bI=>?_⟩ hK⟩
  have jf:¬k=b:=fun e=>bI (e▸h.dk)
  rw[aw b ad bI,bJ,if_neg jf]
 obtain⟨id,first,cap,jh,gW⟩:=aCH a5 rF bf av l0
 refine p0 (Bx ak aH jh (aR.mono gW fun v2 ba aT b7 cB eJ=>?_))
 obtain⟨cn,e,d,J,U,aq,aK⟩:=eJ
 exact⟨cn,e,d,J,U,aq,fun cq iJ gB=>aK cq iJ gB⟩
def tA(p:ff)(a:aE)(r:LT)(Q:aE->LT->Prop):Prop:=
 match r with
 | .take v u aY=>ra p a {u with bH:=false} aY (fun a' bj dV=>Q a' (.take v bj dV))
 | .leave u _=>∃w,a.at_ p.R 1 w/\Q (a.put p.R 1 (fy w iw 1)) (.leave {u with bH:=false,cJ:=true} true)
theorem aCC{fl:List Nat}{bz b8:Nat}{r:LT}{Q:aE->LT->Prop}(cC:ey (lJ p an ar cx) g)(a3:a.an=an/\a.ar=ar)(ap:bm g n)(bf:∀b∈fl,b<n)(h:Bw p an ar g fl bz b8 r)(di:r.u.cJ=false)(av:tA p a r Q)(bO:∀a' r',Q a' r'->a'.an=an/\a'.ar=ar)
 (ah:∀a' r' g' n' fl',Q a' r'->Fr g g' n n' fl fl'->Bw p an ar g' fl' bz b8 r'->K (.bN [.bool r'.u.bH,.bool r'.u.cJ]) g' n' a'):∃fk x f,g b8=some (.al false [.iface fk x])/\nj oi fk "Step" =some (.fn f)/\aR ct bA f [x] g n a K:=by
 have aD:g p.aP=some (fK p an ar):=cC (p.aP,fK p an ar) (by simp[lJ])
 have da:=ap _ _ aD
 cases r with
 |take v u aY=>
  obtain⟨k,f,cT,gI,hv,mP,bG,lW,fs,jA,iI,hF,Dn,rfl⟩:=h
  refine⟨207,.ptr k 0,107,jA,by kernel_rfl,?_⟩
  have zG:=ap _ _ jA
  have qd:p.aP∉cT:=by
   obtain⟨r',ga,aL9,axD,hK,Ge,nG,Sn,c6,cO,fc,kR,rfl⟩:=hv
   intro hm
   simp only[List.mem_cons]at hm
   rcases hm with hm|hm|hm
   .rw[<-hm,aD]at nG;simp[fK,q2]at nG
   .rw[<-hm,aD]at Sn;simp[fK]at Sn
   .exact kR hm
  have fT:=aIn (u:={u with bH:=false}) (Q:=fun a' bj dV=>Q a' (.take v bj dV)) lW fs av
  rw[aIp]at fT
  refine Lz a3 ap (fun b ad=>bf b (by simp[ad])) bG di fT (fun a' bj hi ⟨dV,_,_,_,aK⟩=>bO _ _ aK) fun a' bj hi g' n' fl' cn ⟨dV,jh,U,aq,aK⟩ aV ak=>?_
  subst jh
  refine ah a' (.take v bj dV) g' n' (b8::(fl'++cT)) aK ⟨aV.az,fun b ad=>?_,fun b ad=>?_,fun b ad bI=>?_⟩ ⟨k,cn,cT,fl',hv.b6 ?_ fun b ad=>?_,mP,ak,U,aq,?_,iI,fun hm=>?_,fun b ad hm=>?_,rfl⟩
  .simp only[List.mem_cons,List.mem_append]at ad
   have:=aV.az
   rcases ad with rfl|ad|ad
   .omega
   .exact aV.lt b ad
   .have:=bf b (by simp[ad]);omega
  .simp only[List.mem_cons,List.mem_append]at ad |-
   rcases ad with rfl|ad|ad
   .exact .inl (.inl rfl)
   .rcases aV.sub b ad with h|h
    .exact .inl (.inr (.inl h))
    .exact .inr h
   .exact .inl (.inr (.inr ad))
  .simp only[List.mem_cons,List.mem_append,not_or]at bI
   exact aV.aw b ad bI.2.1
  .exact aV.aw _ da bG.eM
  .exact aV.aw b (bf b (by simp[ad])) fun hm=>Dn b hm ad
  .rw[aV.aw b8 zG hF];exact jA
  .rcases aV.sub _ hm with h|h
   .exact hF h
   .omega
  .rcases aV.sub _ ad with h|h
   .exact Dn b h hm
   .have:=bf b (by simp[hm]);omega
 |leave u d=>
  obtain⟨k,f,gI,bG,jZ,jA,iI,rfl⟩:=h
  refine⟨207,.ptr k 0,107,jA,by kernel_rfl,?_⟩
  have zG:=ap _ _ jA
  have Ge:d=false:=by rw[<-jZ];exact di
  subst Ge
  obtain⟨w,hw,av⟩:=av
  have fT:pA p a {u with bH:=false} (LI false) (fun a' bj hi=>hi=LI true/\bj={u with bH:=false,cJ:=true}/\Q a' (.leave {u with bH:=false,cJ:=true} true)):=⟨w,hw,rfl,rfl,av⟩
  refine Lz a3 ap (fun b ad=>bf b (by simp[ad])) bG di fT (fun a' bj hi ⟨_,_,aK⟩=>bO _ _ aK) fun a' bj hi g' n' fl' cn ⟨jh,hu,aK⟩ aV ak=>?_
  subst jh hu
  refine ah a' (.leave {u with bH:=false,cJ:=true} true) g' n' (b8::fl') aK ⟨aV.az,fun b ad=>?_,fun b ad=>?_,fun b ad bI=>?_⟩ ⟨k,cn,fl',ak,rfl,?_,fun hm=>?_,rfl⟩
  .simp only[List.mem_cons]at ad
   have:=aV.az
   rcases ad with rfl|ad
   .omega
   .exact aV.lt b ad
  .simp only[List.mem_cons]at ad |-
   rcases ad with rfl|ad
   .exact .inl (.inl rfl)
   .rcases aV.sub b ad with h|h
    .exact .inl (.inr h)
    .exact .inr h
  .simp only[List.mem_cons,not_or]at bI
   exact aV.aw b ad bI.2
  .rw[aV.aw b8 zG iI];exact jA
  .rcases aV.sub _ hm with h|h
   .exact iI h
   .omega
end
end
