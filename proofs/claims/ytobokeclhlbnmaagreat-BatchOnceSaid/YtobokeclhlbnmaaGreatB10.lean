/- Part of the proof of BatchOnce, for every input. -/
import Derived.Test.YtobokeclhlbnmaaGreatB9
set_option linter.all false
namespace Go.Proofs.Run
open Go Go.Abs
attribute [local irreducible] b9 cI cr cg aR
set_option maxRecDepth 100000
set_option maxHeartbeats 4000000
section
def fa(p:ff)(Q:aE->c3->gl->Prop):li->aE->c3->Prop
 | .s7,a,u=>(u.stays=true->Q a {u with cJ:=true} .none)/\(u.stays=false->Q a u .drop)
 | .set,a,u=>(u.bk=p.R/\u.bo=2->u.stays=true->Q a {u with bH:=true,aO:=none,cJ:=true} .none)/\(u.bk=p.R/\u.bo=2->u.stays=false->Q a {u with bH:=true,aO:=none} .drop)/\(¬(u.bk=p.R/\u.bo=2)->Q a {u with bH:=true,aO:=none} (.ld u.a7 2 (.rc .sS)))
 | .sS,a,u=>Q a u (.ld p.R 2 (.r7 u.a7 .s7))
 | .uT,a,u=>Q a u (.more 1)
 | .oz last,a,u=>a.m.has last/\(∀x∈a.queue,x.h≠last)/\a.queue.length<40000/\(∀b bC fl' c_,u.stays=true->Q ((a.push last b bC fl').cX c_) {u with cJ:=true} .none)/\(∀b bC fl' c_,u.stays=false->Q ((a.push last b bC fl').cX c_) u .drop)
 | .cut last,a,u=>Q a u (.bX u.made 0 u.key (.rR (.oz last)))
 | .rR k,a,u=>Q a u (.bX u.made 1 u.val (.vb k))
 | .vb k,a,u=>Q a u (.ld p.R 2 (.r7 u.made (.sD k)))
 | .sD k,a,u=>fa p Q k a {u with bH:=true,aO:=none}
 | .mw h k,a,u=>Q a u (.bX p.R 2 (IntKind.wrap .u64 h) k)
 | .tR aO w,a,u=>a.m.has u.a7/\(∀x∈a.queue,x.h≠u.a7)/\a.queue.length<40000/\∀b bC fl' c_,Q ((a.push u.a7 b bC fl').cX c_) u (.more iw)
def lw(p:ff)(Q:aE->c3->gl->Prop)(k:w4)(w:Int)(a:aE)(u:c3):Prop:=
 match k with
 | .lf .a1=>(w=0->u.kind=2/\Q a {u with a7:=0} (.ld p.R 3 .bZ))/\(w≠0->Q a {u with a7:=IntKind.wrap .i64 w} (.ld (IntKind.wrap .i64 w) 0 (.pJ .a1)))
 | .pJ .a1=>(u.kind=2\/u.kind=5)/\(w=u.key->u.kind=2->Q a u (.bX u.a7 1 u.val .set))/\(w=u.key->u.kind=5->Q a u (.ld u.a7 1 .cell))/\(w≠u.key->Q a {u with eo:=u.bk,ep:=u.bo,bk:=u.a7,bo:=2} (.ld u.a7 2 (.lf .a1)))
 | .lf (.b_ _)=>False
 | .pJ (.b_ _)=>False
 | .bZ=>(0<=p.E/\p.E<1000)/\(0<=a.m.made/\a.m.made<1000000000)/\u.stays=false/\(a.m.room<3->Q a {u with bH:=true,aO:=none} .drop)/\
  (3<=a.m.room->w<p.E->∀b,Q (a.make 3 b) {u with made:=a.m.made+1} (.bX (a.m.made+1) 0 u.key (.rR .uT)))/\(3<=a.m.room->¬w<p.E->∀b,Q (a.make 3 b) {u with made:=a.m.made+1} (.bX u.eo u.ep 0 (.cut u.bk)))
 | .rc k=>Q a u (.bX u.bk u.bo w k)
 | .r7 h k=>Q a u (.bX h 2 w (.mw h k))
 | .cell=>∀aO,Q a {u with bH:=true,aO:=some aO} (.ld u.a7 2 (.rc (.tR aO w)))
def pA(p:ff)(a:aE)(u:c3)(nx:gl)(Q:aE->c3->gl->Prop):Prop:=
 match nx with
 | .draw=>∃w,a.at_ p.R 0 w/\Q (a.put p.R 0 (fy w iw 1)) u (.wait w)
 | .wait bK=>(u.kind=2\/u.kind=5)/\∃w,a.at_ p.R 1 w/\(w≠bK->Q a.tick u (.wait bK))/\(w=bK->Q a.tick {u with bk:=p.R,bo:=2} (.ld p.R 2 (.lf .a1)))
 | .ld h i k=>∃w,a.at_ h i w/\lw p Q k w a.tick u
 | .bX h i w k=>dZ w/\(∃w0,a.at_ h i w0)/\fa p Q k (a.put h i w) u
 | .drop=>∃w,a.at_ p.R 1 w/\Q (a.put p.R 1 (fy w iw 1)) {u with cJ:=true} .none
 | .more dA=>∃w,a.at_ p.R 3 w/\(u.stays=true->Q (a.put p.R 3 (fy w iw dA)) {u with cJ:=true} .none)/\(u.stays=false->Q (a.put p.R 3 (fy w iw dA)) u .drop)
 | .none=>False
def aLp(p:ff)(a:aE)(u:c3)(nx:gl)(ks:List Int)(Q:aE->c3->gl->List Int->Prop):Prop:=
 match nx with
 | .draw=>∃w,a.at_ p.R 0 w/\Q (a.put p.R 0 (fy w iw 1)) u (.wait w) ks
 | .wait bK=>∃w,a.at_ p.R 1 w/\(w≠bK->Q a.tick u (.wait bK) ks)/\(w=bK->∀hv,Q a.tick {u with bk:=p.R,bo:=2} (.ld p.R 2 (.lf (.b_ hv))) ks)
 | .ld h i (.lf (.b_ hv))=>∃w,a.at_ h i w/\(w=0->ks.length<100000/\Q a.tick {u with a7:=0,bH:=true,aO:=none,cJ:=true} .none (q' ks))/\(w≠0->Q a.tick {u with a7:=IntKind.wrap .i64 w} (.ld (IntKind.wrap .i64 w) 0 (.pJ (.b_ hv))) ks)
 | .ld h i (.pJ (.b_ hv))=>ks.length<100000/\∃w,a.at_ h i w/\Q a.tick {u with eo:=u.bk,ep:=u.bo,bk:=u.a7,bo:=2} (.ld u.a7 2 (.lf (.b_ hv))) (ks++[w])
 |_=>False
variable{g:G}{n:Nat}{a:aE}{K:cj aE}{p:ff}{fl:List Nat}{r:Nat}{u:c3}{f:bu}
theorem eR.ir{e:jw}{nx:gl}(h:eR p e g n fl r K u nx a):eR p e g n fl r (fun _ g n a=>K (.bN []) g n a) u nx a:=h
theorem SN{Q:aE->c3->gl->Prop}:∀(k:li) {g:G} {n:Nat} {a:aE} {u:c3} {f:bu} {ca:V},dH p a.an a.ar .a1 g fl r u .none f->bm g n->(∀b∈fl,b<n)->iv g fl r k ca->fa p Q k a u->(∀a' bj hi,Q a' bj hi->eR p .a1 g n fl r K bj hi a')->eG ca [] g n a (fun _ g n a=>K (.bN []) g n a)
 | .s7,g,n,a,u,f,ca,h,ap,bf,af,av,ah=>by
   have lS:ca= .fn (.func 184) [.ptr r 0] []:=af
   subst lS
   exact⟨_,_,_,rfl,Bs h ap bf (fun aa=>(ah _ _ _ (av.1 aa)).ir) (fun aa=>(ah _ _ _ (av.2 aa)).ir)⟩
 | .set,g,n,a,u,f,ca,h,ap,bf,af,av,ah=>aCg h ap bf af (fun J U=>(ah _ _ _ (av.1 J U)).ir) (fun J U=>(ah _ _ _ (av.2.1 J U)).ir) (fun J=>(ah _ _ _ (av.2.2 J)).ir)
 | .sS,g,n,a,u,f,ca,h,ap,bf,af,av,ah=>aCi h ap bf af (ah _ _ _ av).ir
 | .uT,g,n,a,u,f,ca,h,ap,bf,af,av,ah=>aCf h ap bf af (ah _ _ _ av).ir
 | .oz last,g,n,a,u,f,ca,h,ap,bf,af,av,ah=>aCc h ap bf af av.1 av.2.1 av.2.2.1 (fun b bC fl' c_ aa=>(ah _ _ _ (av.2.2.2.1 b bC fl' c_ aa)).ir) (fun b bC fl' c_ aa=>(ah _ _ _ (av.2.2.2.2 b bC fl' c_ aa)).ir)
 | .cut last,g,n,a,u,f,ca,h,ap,bf,af,av,ah=>aCb h ap bf af (ah _ _ _ av).ir
 | .rR k,g,n,a,u,f,ca,h,ap,bf,af,av,ah=>aCd h ap bf af (ah _ _ _ av).ir
 | .vb k,g,n,a,u,f,ca,h,ap,bf,af,av,ah=>aCj h ap bf af (ah _ _ _ av).ir
 | .sD k,g,n,a,u,f,ca,h,ap,bf,af,av,ah=>aCe h ap bf af fun aL' g' n' cn az bG lS aw aA=>SN k bG aA (fun b ad=>by have:=bf b ad;omega) lS av fun a' bj hi fT=>(ah a' bj hi fT).trans az (fun b ad=>.inl ad) aw
 | .mw bd k,g,n,a,u,f,ca,h,ap,bf,af,av,ah=>aCk h ap bf af (ah _ _ _ av).ir
 | .tR aO w,g,n,a,u,f,ca,h,ap,bf,af,av,ah=>aCh h ap bf af av.1 av.2.1 av.2.2.1 (fun b bC fl' c_=>(ah _ _ _ (av.2.2.2 b bC fl' c_)).ir)
theorem aCH{nx:gl}{Q:aE->c3->gl->Prop}(h:dH p a.an a.ar .a1 g fl r u nx f)(ap:bm g n)(bf:∀b∈fl,b<n)(av:pA p a u nx Q)(ah:∀a' bj hi,Q a' bj hi->s4 p .a1 g n fl r K bj hi a'):eG f.next [] g n a K:=by
 have dk:=h.dk
 have gg:∀{n':Nat},n<=n'->∀a' bj hi,Q a' bj hi->eR p .a1 g n' fl r K bj hi a':=fun az a' bj hi av=>((ah a' bj hi av).ir dk).trans az (fun b ad=>.inl ad) fun _ _ _=>rfl
 unfold pA at av
 split at av
 .obtain⟨w,hw,av⟩:=av;exact SP h ap bf hw (ah _ _ _ av)
 .obtain⟨eJ,w,hw,J,U⟩:=av;exact Tb h ap bf hw (fun _=>eJ) (fun hv he=>by cases he) (fun e=>ah _ _ _ (J e)) (fun e=>ah _ _ _ (U e))
 .obtain⟨w,hw,av⟩:=av
  refine LD h ap hw fun ca n' az af=>?_
  have ay:dH p a.tick.an a.tick.ar .a1 g fl r u .none f:=h.any
  have dm:=ap.mono az
  have lU:∀b∈fl,b<n':=fun b ad=>by have:=bf b ad;omega
  unfold lw at av
  split at av
  .refine SM (K:=fun _ g n a=>K (.bN []) g n a) ay dm lU af (fun bB hn g7 ba aT f2 cB bG vN cQ dC=>?_) (fun bB=>(gg az _ _ _ (av.2 bB)).ir)
   obtain⟨_,zq⟩:=vN
   subst zq
   exact⟨_,_,_,rfl,aCJ bG dC (fun b ad=>by have:=lU b ad;omega) (av.1 bB).1 ((gg az _ _ _ (av.1 bB).2).ir.trans cB (fun b ad=>.inl ad) fun b _ ad=>cQ b ad)⟩
  .exact aCo (K:=fun _ g n a=>K (.bN []) g n a) ay dm lU rfl af av.1 (fun aD aJ=>(gg az _ _ _ (av.2.1 aD aJ)).ir) (fun aD aJ=>(gg az _ _ _ (av.2.2.1 aD aJ)).ir) (fun aD=>(gg az _ _ _ (av.2.2.2 aD)).ir)
  .exact av.elim
  .exact av.elim
  .exact aCq (K:=fun _ g n a=>K (.bN []) g n a) ay dm lU af av.1 av.2.1 av.2.2.1 (fun aD=>(gg az _ _ _ (av.2.2.2.1 aD)).ir) (fun aD aJ b=>(gg az _ _ _ (av.2.2.2.2.1 aD aJ b)).ir) (fun aD aJ b=>(gg az _ _ _ (av.2.2.2.2.2 aD aJ b)).ir)
  .exact aCr (K:=fun _ g n a=>K (.bN []) g n a) ay dm lU af (gg az _ _ _ av).ir
  .exact aCs (K:=fun _ g n a=>K (.bN []) g n a) ay dm lU af (gg az _ _ _ av).ir
  .exact aCp (K:=fun _ g n a=>K (.bN []) g n a) ay dm lU af (fun aO=>(gg az _ _ _ (av aO)).ir)
 .rename_i bd i w k
  obtain⟨hv,⟨w0,hw⟩,av⟩:=av
  refine aHV h ap hv hw fun ca n' az af=>?_
  have ay:dH p (a.put bd i w).an (a.put bd i w).ar .a1 g fl r u .none f:=h.any
  exact SN k ay (ap.mono az) (fun b ad=>by have:=bf b ad;omega) af av (gg az)
 .obtain⟨w,hw,av⟩:=av;exact aw5 h ap bf hw (gg (Nat.le_refl _) _ _ _ av)
 .obtain⟨w,hw,J,U⟩:=av;exact aDA h ap bf hw (fun e=>gg (Nat.le_refl _) _ _ _ (J e)) (fun e=>gg (Nat.le_refl _) _ _ _ (U e))
 .exact av.elim
end
section
inductive qB where
 |draw
 |wait (bK:Int)
 |load
 |key
 |done
def qB.hL:qB->Bool
 | .done=>true
 |_=>false
def qB.nx(hv:Nat)(u:c3):qB->gl
 | .draw=>.draw
 | .wait bK=>.wait bK
 | .load=>.ld u.bk u.bo (.lf (.b_ hv))
 | .key=>.ld u.a7 0 (.pJ (.b_ hv))
 | .done=>.none
def pB(p:ff)(a:aE)(u:c3)(aY:qB)(ks:List Int)(Q:aE->c3->qB->List Int->Prop):Prop:=
 match aY with
 | .draw=>∃w,a.at_ p.R 0 w/\Q (a.put p.R 0 (fy w iw 1)) u (.wait w) ks
 | .wait bK=>∃w,a.at_ p.R 1 w/\(w≠bK->Q a.tick u (.wait bK) ks)/\(w=bK->Q a.tick {u with bk:=p.R,bo:=2} .load ks)
 | .load=>∃w,a.at_ u.bk u.bo w/\(w=0->ks.length<100000/\Q a.tick {u with a7:=0,bH:=true,aO:=none,cJ:=true} .done (q' ks))/\(w≠0->Q a.tick {u with a7:=IntKind.wrap .i64 w} .key ks)
 | .key=>ks.length<100000/\∃w,a.at_ u.a7 0 w/\Q a.tick {u with eo:=u.bk,ep:=u.bo,bk:=u.a7,bo:=2} .load (ks++[w])
 | .done=>False
section
variable{g:G}{n:Nat}{a:aE}{K:cj aE}{p:ff}{fl:List Nat}{r hv:Nat}{u:c3}
theorem aDn{aY:qB}{ks:List Int}{Q:aE->c3->qB->List Int->Prop}(h:m0 p a.an a.ar g fl r hv u (aY.nx hv u) ks)(ap:bm g n)(bf:∀b∈fl,b<n)(av:pB p a u aY ks Q)(ah:∀a' bj dV k8,Q a' bj dV k8->mx p g n fl r hv K bj (dV.nx hv bj) k8 a'):∃f:bu,g r=some (.al false f.l)/\f.done= .bool u.cJ/\eG f.next [] g n a K:=by
 unfold pB at av
 split at av
 .obtain⟨w,hw,av⟩:=av;exact aDh h ap bf hw (ah _ _ _ _ av)
 .obtain⟨w,hw,J,U⟩:=av;exact aDo h ap bf hw (fun e=>ah _ _ _ _ (J e)) (fun e=>ah _ _ _ _ (U e))
 .obtain⟨w,hw,J,U⟩:=av;exact aDm h ap bf hw (fun e=>(J e).1) (fun e=>ah _ _ _ _ (J e).2) (fun e=>ah _ _ _ _ (U e))
 .obtain⟨aA,w,hw,J⟩:=av;exact aDk h ap bf aA hw (ah _ _ _ _ J)
 .exact av.elim
end
structure Fr(g g':G)(n n':Nat)(fl fl':List Nat):Prop where
 az:n<=n'
 lt:∀b∈fl',b<n'
 sub:∀b∈fl',b∈fl\/n<=b
 aw:∀b,b<n->b∉fl->g' b=g b
theorem Fr.trans{g bY ba:G}{n bq aT:Nat}{fl gI s':List Nat}(J:Fr g bY n bq fl gI)(U:Fr bY ba bq aT gI s'):Fr g ba n aT fl s':=by
 have aD:=J.az
 have aJ:=U.az
 refine⟨I,U.lt,fun b ad=>?_,fun b ad bI=>?_⟩
 .rcases U.sub b ad with h|h
  .exact J.sub b h
  .exact .inr I
 .rw[U.aw b I (fun h=>?_),J.aw b ad bI]
  rcases J.sub b h with h|h
  .exact bI h
  .omega
def ey(dv:List (Nat×bt))(g:G):Prop:=∀q∈dv,g q.1=some q.2
structure fw where
 V:Type
 R:Type
 L:Type
 an:Nat
 ar:Nat
 e8:Int
 dv:List (Nat×bt)
 dk:Go.Abs.V
 aI:Go.Abs.V
 rh:G->List Nat->Nat->V->Prop
 oM:G->List Nat->Nat->Nat->R->Prop
 uR:G->List Nat->Go.Abs.V->L->Prop
 tU:Int->V
 Ad:aE->V->(aE->V->Prop)->Prop
 qt:V->Bool
 r5:V->Bool
 iP:V->List Int
 tok:V->Nat->Prop
 zH:V->Prop
 nO:V->Nat->R
 pH:V->R
 wJ:aE->R->(aE->R->Prop)->Prop
 oL:R->Bool
 j7:R->Bool
 x':R->Int
 q8:R->Option V
 zF:Int->Int->L->Prop
 pA:aE->L->(aE->L->Prop)->Prop
 sF:L->Bool
 G5:L->Bool
 tS:∀{g g':G} {fl:List Nat} {bz:Nat} {v:V},rh g fl bz v->ey dv g->ey dv g'->(∀b∈fl,g' b=g b)->rh g' fl bz v
 u5:∀{g g':G} {fl:List Nat} {bz b8:Nat} {r:R},oM g fl bz b8 r->ey dv g->ey dv g'->(∀b∈fl,g' b=g b)->oM g' fl bz b8 r
 G2:∀{g g':G} {fl:List Nat} {x:Go.Abs.V} {l:L},uR g fl x l->ey dv g->ey dv g'->(∀b∈fl,g' b=g b)->uR g' fl x l
 E4:∀{g:G} {fl:List Nat} {bz:Nat} {v:V},rh g fl bz v->bz∈fl
 Ev:∀{g:G} {n:Nat} {a:aE} {K:cj aE} {k:Int},ey dv g->a.an=an/\a.ar=ar->bm g n->0<=k/\k<e8->(∀g' n' fl bz,Fr g g' n n' [] fl->rh g' fl bz (tU k)->K (.ptr bz 0) g' n' a)->eG dk [.int .i64 k] g n a K
 NI:∀{g:G} {n:Nat} {a:aE} {K:cj aE} {fl:List Nat} {bz:Nat} {v:V} {Q:aE->V->Prop},ey dv g->a.an=an/\a.ar=ar->bm g n->(∀b∈fl,b<n)->rh g fl bz v->Ad a v Q->(∀a' v',Q a' v'->a'.an=an/\a'.ar=ar)->(∀a' v' g' n' fl',Q a' v'->Fr g g' n n' fl fl'->rh g' fl' bz v'->K (.bN [.bool (qt v'),.bool (r5 v')]) g' n' a')->aR ct bA 185 [.ptr bz 0] g n a K
 Lu:∀{g:G} {n:Nat} {a:aE} {K:cj aE} {fl:List Nat} {bz:Nat} {v:V},a.an=an/\a.ar=ar->rh g fl bz v->r5 v=true->(iP v).length<100000->(∀g' n' kv kf,n<=n'->iG g' kv (words (iP v)) kf->(∀b∈kf,n<=b)->(∀b,b<n->g' b=g b)->K kv g' n' a)->aR ct bA 186 [.ptr bz 0] g n a K
 BY:∀{g:G} {n:Nat} {a:aE} {K:cj aE} {fl:List Nat} {bz:Nat} {v:V} {i:Nat},ey dv g->a.an=an/\a.ar=ar->bm g n->(∀b∈fl,b<n)->rh g fl bz v->r5 v=true->tok v i->(∀g' n' fl' b8,Fr g g' n n' fl fl'->oM g' fl' bz b8 (nO v i)->K (.ptr b8 0) g' n' a)->aR ct bA 254 [.ptr bz 0,.int .i64 i] g n a K
 DT:∀{g:G} {n:Nat} {a:aE} {K:cj aE} {fl:List Nat} {bz:Nat} {v:V},ey dv g->a.an=an/\a.ar=ar->bm g n->(∀b∈fl,b<n)->rh g fl bz v->r5 v=true->zH v->(∀g' n' fl' b8,Fr g g' n n' fl fl'->oM g' fl' bz b8 (pH v)->K (.ptr b8 0) g' n' a)->aR ct bA 252 [.ptr bz 0] g n a K
 HO:∀{g:G} {n:Nat} {a:aE} {K:cj aE} {fl:List Nat} {bz b8:Nat} {r:R} {Q:aE->R->Prop},ey dv g->a.an=an/\a.ar=ar->bm g n->(∀b∈fl,b<n)->oM g fl bz b8 r->j7 r=false->wJ a r Q->(∀a' r',Q a' r'->a'.an=an/\a'.ar=ar)->(∀a' r' g' n' fl',Q a' r'->Fr g g' n n' fl fl'->oM g' fl' bz b8 r'->K (.bN [.bool (oL r'),.bool (j7 r')]) g' n' a')->∃fk x f,g b8=some (.al false [.iface fk x])/\nj oi fk "Step" =some (.fn f)/\aR ct bA f [x] g n a K
 M3:∀{g:G} {n:Nat} {a:aE} {K:cj aE} {fl:List Nat} {bz b8:Nat} {r:R},oM g fl bz b8 r->oL r=true->(q8 r).isSome=true->(∀g' n' b',n<=b'->g' b'=some (.al false [.int .u64 (x' r)])->(∀b,b<n->g' b=g b)->K (.agg [.int .i64 0,.slice b' 0 1 1 1,.int .u64 0,.int .i64 0]) g' n' a)->∃fk x f,g b8=some (.al false [.iface fk x])/\nj oi fk "Result" =some (.fn f)/\aR ct bA f [x] g n a K
 MZ:∀{g:G} {fl:List Nat} {bz b8:Nat} {r:R} {v:V},oM g fl bz b8 r->j7 r=true->q8 r=some v->∃fl',(∀b∈fl',b∈fl)/\rh g fl' bz v/\r5 v=true
 Bt:∀{g:G} {n:Nat} {a:aE} {K:cj aE} {key val:Int} {ch:Nat},ey dv g->a.an=an/\a.ar=ar->bm g n->g ch=some (.al false [.int .u64 val])->(∀g' n' fl x l,zF key val l->Fr g g' n n' [] fl->uR g' fl x l->x.cell=true/\x.cells=[x]/\x.known=true/\Go.Abs.V.same 40 x x=true->K x g' n' a)->eG aI [.agg [.int .i64 2,.int .u64 key,.slice ch 0 1 1 1,.int .i64 0,.int .i64 0]] g n a K
 Bx:∀{g:G} {n:Nat} {a:aE} {K:cj aE} {fl:List Nat} {x:Go.Abs.V} {l:L} {Q:aE->L->Prop},ey dv g->a.an=an/\a.ar=ar->bm g n->(∀b∈fl,b<n)->uR g fl x l->sF l=false->pA a l Q->(∀a' l',Q a' l'->a'.an=an/\a'.ar=ar)->(∀a' l' g' n' fl',Q a' l'->Fr g g' n n' fl fl'->uR g' fl' x l'->K (.bN [.bool (G5 l'),.bool (sF l')]) g' n' a')->∃fk y f,x= .iface fk y/\nj oi fk "Step" =some (.fn f)/\aR ct bA f [y] g n a K
end
section
theorem Own.set{g:G}{A B:List (Nat×bt)}{r:Nat}{dd c1:bt}(h:Own g (A++(r,dd)::B)):Own (a1 g r c1) (A++(r,c1)::B):=by
 have gO:=h.de
 simp only[List.map_append,List.map_cons,List.nodup_append,List.nodup_cons]at gO
 obtain⟨J,⟨U,aq⟩,aK⟩:=gO
 refine⟨fun q av=>?_,by simpa[List.map_append]using h.de⟩
 rcases List.mem_append.1 av with av|av
 .have:q.1≠r:=fun e=>aK q.1 (List.mem_map_of_mem av) r aM e
  rw[bJ,if_neg (fun e=>this e.symm)]
  exact h.at_ q (List.mem_append.2 (.inl av))
 .rcases List.mem_cons.1 av with rfl|av
  .rw[bJ,if_pos rfl]
  .have:q.1≠r:=fun e=>U (e▸List.mem_map_of_mem av)
   rw[bJ,if_neg (fun e=>this e.symm)]
   exact h.at_ q (List.mem_append.2 (.inr (List.mem_cons_of_mem _ av)))
section
variable{g:G}{p:ew}{an ar:Nat}{fl:List Nat}
theorem kW.si{r:Nat}{u:gD}{f:bF}{L:List (Nat×bt)}(h:kW p an ar g fl r u f L):kW p an ar (a1 g r (.al false {f with effect:=.bool false}.l)) fl r {u with bH:=false} {f with effect:=.bool false} L:=
 ⟨⟨h.aZ.x,h.aZ.hX,h.aZ.g5,h.aZ.hY,h.aZ.h_,h.aZ.i_,h.aZ.val,rfl,h.aZ.done,h.aZ.room,h.aZ.bk,h.aZ.bo,h.aZ.a7,h.aZ.made,h.aZ.key,h.aZ.fu⟩,h.dG,Own.set (A:=[_]) h.own,h.fl⟩
theorem nA.si{r hv:Nat}{v:jd}{f:bF}{L:List (Nat×bt)}(h:nA p an ar g fl r hv v f L):nA p an ar (a1 g r (.al false {f with effect:=.bool false}.l)) fl r hv {v with bH:=false} {f with effect:=.bool false} L:=
 ⟨⟨h.aZ.x,rfl,h.aZ.done,h.aZ.room⟩,h.dG,Own.set (A:=[_]) h.own,h.fl⟩
theorem ou.si{r hv k:Nat}{u:lj}{f0 f:bF}{L:List (Nat×bt)}(h:ou p an ar g fl r hv k u f0 f L):ou p an ar (a1 g k (.al false {f with effect:=.bool false}.l)) fl r hv k {u with bH:=false} f0 {f with effect:=.bool false} L:=
 ⟨h.hM,h.nv,⟨h.aZ.x,rfl,h.aZ.done,h.aZ.room,h.aZ.bk,h.aZ.bo,h.aZ.a7⟩,h.dG,Own.set (A:=[_,_]) h.own,h.fl⟩
theorem ue.si{k:Nat}{room:Int}{bH cJ:Bool}{f:bF}(h:ue p an ar g fl k room bH cJ f):ue p an ar (a1 g k (.al false {f with effect:=.bool false}.l)) fl k room false cJ {f with effect:=.bool false}:=
 ⟨h.x,rfl,h.done,h.room,h.next,Own.set (A:=[_]) h.own,h.fl⟩
theorem Own.FJ{g g':G}{L:List (Nat×bt)}{x:Nat×bt}(h:Own g (x::L))(aj:g' x.1=g x.1)(aw:∀b∈L.map (·.1),g' b=g b):Own g' (x::L):=h.b6 fun b ad=>by
 rcases List.mem_cons.1 ad with rfl|ad
 .exact aj
 .exact aw b ad
theorem kW.b6{g':G}{r:Nat}{u:gD}{f:bF}{L:List (Nat×bt)}(h:kW p an ar g fl r u f L)(aj:g' p.aP=g p.aP)(aw:∀b∈fl,g' b=g b):kW p an ar g' fl r u f L:=⟨h.aZ,h.dG,h.own.FJ aj (by have:=h.fl;subst this;exact aw),h.fl⟩
theorem nA.b6{g':G}{r hv:Nat}{v:jd}{f:bF}{L:List (Nat×bt)}(h:nA p an ar g fl r hv v f L)(aj:g' p.aP=g p.aP)(aw:∀b∈fl,g' b=g b):nA p an ar g' fl r hv v f L:=⟨h.aZ,h.dG,h.own.FJ aj (by have:=h.fl;subst this;exact aw),h.fl⟩
theorem ou.b6{g':G}{r hv k:Nat}{u:lj}{f0 f:bF}{L:List (Nat×bt)}(h:ou p an ar g fl r hv k u f0 f L)(aj:g' p.aP=g p.aP)(aw:∀b∈fl,g' b=g b):ou p an ar g' fl r hv k u f0 f L:=⟨h.hM,h.nv,h.aZ,h.dG,h.own.FJ aj (by have:=h.fl;subst this;exact aw),h.fl⟩
theorem ue.b6{g':G}{k:Nat}{room:Int}{bH cJ:Bool}{f:bF}(h:ue p an ar g fl k room bH cJ f)(aj:g' p.aP=g p.aP)(aw:∀b∈fl,g' b=g b):ue p an ar g' fl k room bH cJ f:=⟨h.x,h.bH,h.done,h.room,h.next,h.own.FJ aj (by have:=h.fl;subst this;exact aw),h.fl⟩
end
def q2(i:Nat)(r hv ch:Nat):bt:=.al false [.fn (.func i) [.ptr r 0] [],.fn (.func (i+1)) [.ptr hv 0] [],.fn (.func (i+2)) [] [.ptr ch 0],.fn (.func (i+4)) [] [.ptr ch 0],.fn (.func (i+6)) [] [.ptr ch 0]]
inductive ot where
 |take (u:lj)
 |leave (room:Int) (bH cJ:Bool)
def ot.cJ:ot->Bool
 | .take u=>u.aY.hL
 | .leave _ _ d=>d
def ot.AM:ot->Bool
 | .take u=>u.bH
 | .leave _ e _=>e
section
variable(p:ew)(an ar cx:Nat)
def jJ:List (Nat×bt):=[(p.aP,gn p an ar),(cx,.al false [.ptr p.aP 0])]
def xR(g:G)(fl:List Nat)(bz:Nat)(v:jd):Prop:=∃r hv ch f L cT,nA p an ar g cT r hv v f L/\g bz=some (q2 93 r hv ch)/\g ch=some (.al false [.ptr hv 0])/\bz∉cT/\ch∉cT/\bz≠ch/\fl=bz::ch::cT
def zj(g:G)(fl:List Nat)(bz b8:Nat):ot->Prop
 | .take u=>∃r hv ch k f0 f L cT,ou p an ar g cT r hv k u f0 f L/\g bz=some (q2 93 r hv ch)/\g ch=some (.al false [.ptr hv 0])/\g b8=some (.al false [.iface 191 (.ptr k 0)])/\bz∉cT/\ch∉cT/\bz≠ch/\b8∉cT/\b8≠bz/\b8≠ch/\fl=b8::bz::ch::cT
 | .leave room bH cJ=>∃k f,ue p an ar g [k] k room bH cJ f/\g b8=some (.al false [.iface 191 (.ptr k 0)])/\b8≠k/\fl=[b8,k]
def Gt(g:G)(fl:List Nat)(x:V)(l:gD):Prop:=∃r f L,x= .iface 191 (.ptr r 0)/\kW p an ar g fl r l f L
def we(a:aE)(r:ot)(Q:aE->ot->Prop):Prop:=
 match r with
 | .take u=>px p a {u with bH:=false} fun a' bj=>Q a' (.take bj)
 | .leave room _ _=>(0<=room/\room<1000)/\∃w,a.at_ p.R (bW room+1) w/\Q (a.put p.R (bW room+1) (fy w iw 1)) (.leave room false true)
def zo(v:jd)(i:Nat):Prop:=i<v.keys.length/\v.keys.length<100000/\v.gH.length=v.keys.length/\(∀j,j<i->v.gH[j]? =some 0)/\0<=v.room/\v.room<1000
end
end
section
variable{p:ew}{an ar cx:Nat}{g:G}{n:Nat}{a:aE}{K:cj aE}
theorem ayH{k:Int}(cC:ey (jJ p an ar cx) g)(a3:a.an=an/\a.ar=ar)(ap:bm g n)(hU:0<=k/\k<1000)
 (ah:∀g' n' fl bz,Fr g g' n n' [] fl->xR p an ar g' fl bz ⟨k,0,0,0,[],[],false,.draw⟩->K (.ptr bz 0) g' n' a):eG (.fn (.func 91) [] [.ptr cx 0]) [.int .i64 k] g n a K:=by
 obtain⟨rfl,rfl⟩:=a3
 have aD:g p.aP=some (gn p a.an a.ar):=cC (p.aP,gn p a.an a.ar) (by simp[jJ])
 have aJ:g cx=some (.al false [.ptr p.aP 0]):=cC (cx,.al false [.ptr p.aP 0]) (by simp[jJ])
 refine⟨_,_,_,rfl,?_⟩
 refine bE i91 fun N aF=>?_
 refine aL Pd aJ ?_
 refine aAV aD (ap.mono I) hU fun bY bq r hv cT f L g4 bG cE c5=>?_
 intro dE
 have a5:=bG
 obtain⟨aZ,dG,own,azN⟩:=bG
 simp only[rs]at dG
 obtain⟨dd,c1,c2,t,cP,ga,g3,j0,rfl⟩:=dG
 have F:=own.at_
 simp only[h4,and_true]at F
 have T:=own.Hd dE
 have bf:∀b∈cT,b<bq:=fun b ad=>by
  rw[azN]at ad
  rcases List.mem_cons.1 ad with rfl|ad
  .exact dE _ _ F.2.1
  .obtain⟨q,av,rfl⟩:=List.mem_map.1 ad
   exact(T q (List.mem_cons_of_mem _ (List.mem_cons_of_mem _ av))).1
 have cV:r<bq:=dE _ _ F.2.1
 have kM:hv<bq:=dE _ _ F.2.2.1
 refine aL (aN aex.eq_1 Pd) (d' F.2.2.1 (ag (I:r<bq)) (ag (I:hv<bq)) (ag (I:bq<bq+1)) (ag (I:r<bq+1)) (ag (I:hv<bq+1))) ?_
 apply aF
 refine a6 i91.eq_1 ?_
 intro _
 refine .all (ah _ _ ((bq+12)::bq::cT) (bq+12) ⟨I,fun b ad=>?_,fun b ad=>?_,fun b ad bI=>?_⟩ ⟨r,hv,bq,f,_,cT,a5.b6 ?_ fun b ad=>?_,?_,?_,fun hm=>?_,fun hm=>?_,I,rfl⟩)
 .simp only[List.mem_cons]at ad
  rcases ad with rfl|rfl|ad
  .omega
  .omega
  .have:=bf b ad;omega
 .simp only[List.mem_cons]at ad
  rcases ad with rfl|rfl|ad
  .exact .inr I
  .exact .inr I
  .exact .inr (by have:=cE b ad;omega)
 .rw[<-c5 b I]
  exact bc (ag (I:b<bq))
 .have da:=dE _ _ F.1
  exact bc (ag (I:p.aP<bq))
 .have:=bf b ad
  exact bc (ag (I:b<bq))
 .exact bc (cw q2.eq_1 (ag (I:r<bq)) (ag (I:hv<bq)))
 .exact bc (aN (ag (I:r<bq)) (ag (I:hv<bq)))
 .have:=bf _ hm;omega
 .have:=bf _ hm;omega
theorem aKr{fl:List Nat}{n':Nat}{g':G}(az:n<=n')(bf:∀b∈fl,b<n)(aw:∀b,b<n->g' b=g b):Fr g g' n n' fl fl:=⟨az,fun b ad=>by have:=bf b ad;omega,fun b ad=>.inl ad,fun b ad _=>aw b ad⟩
theorem ayK{fl:List Nat}{bz:Nat}{v:jd}{Q:aE->jd->Prop}(cC:ey (jJ p an ar cx) g)(a3:a.an=an/\a.ar=ar)(ap:bm g n)(bf:∀b∈fl,b<n)(h:xR p an ar g fl bz v)(av:qY p a {v with bH:=false} Q)(bO:∀a' v',Q a' v'->a'.an=an/\a'.ar=ar)
 (ah:∀a' v' g' n' fl',Q a' v'->Fr g g' n n' fl fl'->xR p an ar g' fl' bz v'->K (.bN [.bool v'.bH,.bool v'.aY.hL]) g' n' a'):aR ct bA 185 [.ptr bz 0] g n a K:=by
 obtain⟨rfl,rfl⟩:=a3
 obtain⟨r,hv,ch,f,L,cT,bG,hQ,gp,iI,hF,qa,rfl⟩:=h
 have aD:g p.aP=some (gn p a.an a.ar):=cC (p.aP,gn p a.an a.ar) (by simp[jJ])
 have mm:=ap _ _ hQ
 have cF:=ap _ _ gp
 have nG:=hQ
 simp only[q2]at nG
 have gO:v.aY.hL=false:=by
  cases aB:v.aY<;>simp only[qY,aB]at av<;>first|rfl|exact av.elim
 have ak:g r=some (.al false f.l):=bG.own.at_ (r,.al false f.l) aM
 have aH:f.done= .bool false:=by rw[bG.aZ.done,gO]
 have a5:=bG.si
 have wI:r∈cT:=by rw[bG.fl];simp
 have rF:bm (a1 g r (.al false {f with effect:=.bool false}.l)) n:=ap.a1 (ap _ _ ak) _
 have iL:p.aP≠r:=by
  have:=bG.own.de
  simp only[List.map_cons,List.nodup_cons,List.mem_cons,not_or]at this
  exact this.1.1
 have jA:bz≠r:=fun e=>iI (e▸wI)
 have kg:ch≠r:=fun e=>hF (e▸wI)
 refine bE i185 fun N aF=>?_
 refine aL Ft nG ?_
 have l0:∀a' v',Q a' v'->pS p (a1 g r (.al false {f with effect:=.bool false}.l)) n cT r hv (fun _ g' n' a'=>∃(cn:bF) (e d:Bool),g' r=some (.al false cn.l)/\cn.effect= .bool e/\cn.done= .bool d/\∀aT,n'<=aT->(bm g' aT->K (.bN [.bool e,.bool d]) g' aT a')) v' a':=by
  intro a' v' fT
  intro g' n' fl' cn iF az hK cE aw
  have ke:g' r=some (.al false cn.l):=hK.own.at_ (r,.al false cn.l) aM
  obtain⟨c6,cO⟩:=bO a' v' fT
  rw[c6,cO]at hK
  refine⟨cn,_,_,ke,hK.aZ.bH,hK.aZ.done,fun aT cB dC=>ah a' v' g' aT (bz::ch::fl') fT ⟨I,fun b ad=>?_,fun b ad=>?_,fun b ad bI=>?_⟩ ⟨r,hv,ch,cn,iF,fl',hK,?_,?_,fun hm=>?_,fun hm=>?_,qa,rfl⟩⟩
  .simp only[List.mem_cons]at ad
   rcases ad with rfl|rfl|ad
   .omega
   .omega
   .rw[hK.fl]at ad
    have T:=hK.own.Hd dC
    rcases List.mem_cons.1 ad with rfl|ad
    .exact dC _ _ ke
    .obtain⟨q,av,rfl⟩:=List.mem_map.1 ad
     exact(T q (List.mem_cons_of_mem _ (List.mem_cons_of_mem _ av))).1
  .simp only[List.mem_cons]at ad |-
   rcases ad with rfl|rfl|ad
   .exact .inl (.inl rfl)
   .exact .inl (.inr (.inl rfl))
   .rcases cE b ad with h|h
    .exact .inl (.inr (.inr h))
    .exact .inr h
  .simp only[List.mem_cons,not_or]at bI
   have jf:¬r=b:=fun e=>bI.2.2 (e▸wI)
   rw[aw b ad bI.2.2,bJ,if_neg jf]
  .rw[aw bz mm iI,bJ,if_neg (fun e=>jA e.symm)];exact hQ
  .rw[aw ch cF hF,bJ,if_neg (fun e=>kg e.symm)];exact gp
  .rcases cE _ hm with h|h
   .exact iI h
   .omega
  .rcases cE _ hm with h|h
   .exact hF h
   .omega
 obtain⟨id,first,cap,jh,gW⟩:=aBh a5 rF av l0
 refine GD ak aH jh (aR.mono gW fun v2 ba aT b7 cB eJ=>?_)
 obtain⟨cn,e,d,J,U,aq,aK⟩:=eJ
 refine⟨cn,e,d,J,U,aq,fun cq iJ=>?_⟩
 intro gB
 refine dl (aN Mv.eq_1 Ft) ?_
 apply aF
 refine a6 i185.eq_1 ?_
 exact fun _=>.all (aK cq iJ gB)
theorem ayC{fl:List Nat}{bz:Nat}{v:jd}(h:xR p an ar g fl bz v)(aH:v.aY.hL=true)(aA:v.keys.length<100000)
 (ah:∀g' n' kv kf,n<=n'->iG g' kv (words v.keys) kf->(∀b∈kf,n<=b)->(∀b,b<n->g' b=g b)->K kv g' n' a) (a3:a.an=an/\a.ar=ar):aR ct bA 186 [.ptr bz 0] g n a K:=by
 obtain⟨rfl,rfl⟩:=a3
 obtain⟨r,hv,ch,f,L,cT,bG,hQ,gp,iI,hF,qa,rfl⟩:=h
 simp only[q2]at hQ
 have bh:v.aY= .done:=by cases aB:v.aY<;>simp_all[yx.hL]
 refine bE i186 fun N aF=>?_
 refine aL Fu hQ ?_
 refine az4 bh bG aA fun g' n' og fl' az rM cE aw=>?_
 intro cf
 refine dl (aN Mw.eq_1 Fu) ?_
 apply aF
 refine a6 i186.eq_1 ?_
 exact fun _=>.all (ah _ _ _ _ I rM (fun b ad=>by have:=cE b ad;omega) fun b ad=>aw b I)
end
section
variable{p:ew}{an ar cx:Nat}{g:G}{n:Nat}{a:aE}{K:cj aE}
theorem Own.fn{L:List (Nat×bt)}{fl:List Nat}(h:Own g L)(ap:bm g n)(cE:∀b∈fl,b∈L.map (·.1)):∀b∈fl,b<n:=fun b ad=>by
 obtain⟨q,av,rfl⟩:=List.mem_map.1 (cE b ad)
 exact(h.Hd ap q av).1
theorem ou.fn{r hv k:Nat}{u:lj}{f0 f:bF}{L:List (Nat×bt)}{fl:List Nat}(h:ou p an ar g fl r hv k u f0 f L)(ap:bm g n):∀b∈fl,b<n:=h.own.fn ap fun b ad=>by rw[h.fl]at ad;simp only[List.map_cons,List.mem_cons]at ad |-;exact .inr ad
theorem kW.fn{r:Nat}{u:gD}{f:bF}{L:List (Nat×bt)}{fl:List Nat}(h:kW p an ar g fl r u f L)(ap:bm g n):∀b∈fl,b<n:=h.own.fn ap fun b ad=>by rw[h.fl]at ad;simp only[List.map_cons,List.mem_cons]at ad |-;exact .inr ad
theorem ayJ{fl:List Nat}{bz:Nat}{v:jd}{i:Nat}(cC:ey (jJ p an ar cx) g)(a3:a.an=an/\a.ar=ar)(ap:bm g n)(bf:∀b∈fl,b<n)(h:xR p an ar g fl bz v)(aH:v.aY.hL=true)(bg:zo v i)
 (ah:∀g' n' fl' b8,Fr g g' n n' fl fl'->zj p an ar g' fl' bz b8 (.take ⟨p.R,bW v.room+2,v.gH.getD i 0,0,v,false,.start i⟩)->K (.ptr b8 0) g' n' a):aR ct bA 254 [.ptr bz 0,.int .i64 i] g n a K:=by
 obtain⟨rfl,rfl⟩:=a3
 obtain⟨r,hv,ch,f,L,cT,bG,hQ,gp,iI,hF,qa,rfl⟩:=h
 have nG:=hQ
 simp only[q2]at nG
 have mm:=ap _ _ hQ
 have cF:=ap _ _ gp
 have bh:v.aY= .done:=by cases aB:v.aY<;>simp_all[yx.hL]
 obtain⟨t1,t2,t3,t4,t5⟩:=bg
 have af:v.gH[i]? =some (v.gH.getD i 0):=by
  rw[List.getD_eq_getElem?_getD,List.getElem?_eq_getElem I];rfl
 refine bE i254 fun N aF=>?_
 refine aL FA nG ?_
 refine bE i97 fun pO je=>?_
 refine aL Pg gp ?_
 refine aA5 bh bG ap t1 t2 t4 t5 af fun bY bq gI k f1 Iu g4 o7 mM c5=>?_
 intro dE
 have A1:=o7.fn dE
 refine dl (aN aez.eq_1 Pg) ?_
 apply je
 refine a6 i97.eq_1 ?_
 intro _
 refine .all ?_
 intro dC
 refine dl (aN MC.eq_1 FA) ?_
 apply aF
 refine a6 i254.eq_1 ?_
 intro _
 refine .all (ah _ _ (bq::bz::ch::gI) bq ⟨I,fun b ad=>?_,fun b ad=>?_,fun b ad bI=>?_⟩ ⟨r,hv,ch,k,f,f1,Iu,gI,o7.b6 ?_ fun b ad=>?_,?_,?_,?_,fun hm=>?_,fun hm=>?_,qa,fun hm=>?_,I,I,rfl⟩)
 .simp only[List.mem_cons]at ad
  rcases ad with rfl|rfl|rfl|ad
  .omega
  .omega
  .omega
  .have:=A1 b ad;omega
 .simp only[List.mem_cons]at ad |-
  rcases ad with rfl|rfl|rfl|ad
  .exact .inr I
  .exact .inl (.inl rfl)
  .exact .inl (.inr (.inl rfl))
  .rcases mM b ad with h|h
   .exact .inl (.inr (.inr h))
   .exact .inr h
 .rw[bJ,if_neg I,c5 b ad]
 .have:=dE _ _ (o7.own.at_ (p.aP,gn p a.an a.ar) aM)
  simp only at this
  rw[bJ,if_neg I]
 .have:=A1 b ad
  rw[bJ,if_neg I]
 .rw[bJ,if_neg I,c5 bz mm];exact hQ
 .rw[bJ,if_neg I,c5 ch cF];exact gp
 .exact dX
 .rcases mM _ hm with h|h
  .exact iI h
  .omega
 .rcases mM _ hm with h|h
  .exact hF h
  .omega
 .have:=A1 _ hm;omega
theorem ayE{fl:List Nat}{bz:Nat}{v:jd}(cC:ey (jJ p an ar cx) g)(a3:a.an=an/\a.ar=ar)(ap:bm g n)(bf:∀b∈fl,b<n)(h:xR p an ar g fl bz v)(aH:v.aY.hL=true)
 (ah:∀g' n' fl' b8,Fr g g' n n' fl fl'->zj p an ar g' fl' bz b8 (.leave v.room false false)->K (.ptr b8 0) g' n' a):aR ct bA 252 [.ptr bz 0] g n a K:=by
 obtain⟨rfl,rfl⟩:=a3
 obtain⟨r,hv,ch,f,L,cT,bG,hQ,gp,iI,hF,qa,rfl⟩:=h
 have nG:=hQ
 simp only[q2]at nG
 have bh:v.aY= .done:=by cases aB:v.aY<;>simp_all[yx.hL]
 refine bE i252 fun N aF=>?_
 refine aL Fy nG ?_
 refine bE i99 fun pO je=>?_
 refine aL Ph gp ?_
 refine aAg bG bh ap fun bY bq k f1 g4 o7 aKZ c5=>?_
 intro dE
 have cd:k<bq:=dE _ _ (o7.own.at_ (k,.al false f1.l) aM)
 refine dl (aN aeC.eq_1 Ph) ?_
 apply je
 refine a6 i99.eq_1 ?_
 intro _
 refine .all ?_
 intro dC
 refine dl (aN MB.eq_1 Fy) ?_
 apply aF
 refine a6 i252.eq_1 ?_
 intro _
 refine .all (ah _ _ [bq,k] bq ⟨I,fun b ad=>?_,fun b ad=>?_,fun b ad bI=>?_⟩ ⟨k,f1,o7.b6 ?_ fun b ad=>?_,?_,I,rfl⟩)
 .simp only[List.mem_cons,List.not_mem_nil,or_false]at ad
  rcases ad with rfl|rfl<;>omega
 .simp only[List.mem_cons,List.not_mem_nil,or_false]at ad
  exact .inr I
 .rw[bJ,if_neg I,c5 b ad]
 .have:=dE _ _ (o7.own.at_ (p.aP,gn p a.an a.ar) aM)
  simp only at this
  rw[bJ,if_neg I]
 .simp only[List.mem_singleton]at ad
  subst ad
  rw[bJ,if_neg I]
 .exact dX
theorem ayG{fl:List Nat}{bz b8:Nat}{u:lj}(h:zj p an ar g fl bz b8 (.take u))(bh:u.aY= .dec)
 (ah:∀g' n' b',n<=b'->g' b'=some (.al false [.int .u64 u.val])->(∀b,b<n->g' b=g b)->K (.agg [.int .i64 0,.slice b' 0 1 1 1,.int .u64 0,.int .i64 0]) g' n' a):∃fk x f,g b8=some (.al false [.iface fk x])/\nj oi fk "Result" =some (.fn f)/\aR ct bA f [x] g n a K:=by
 obtain⟨r,hv,ch,k,f0,f,L,cT,bG,hQ,gp,jA,hm⟩:=h
 refine⟨191,.ptr k 0,391,jA,by kernel_rfl,?_⟩
 obtain⟨kv,aW,jt,ov,jy,mg,rfl⟩:=bG.dG
 simp only[vm,bh]at mg
 obtain⟨s2,iq,ea,aO,jh,a5,J,U,aq,rfl⟩:=mg
 exact aAT (bG.own.at_ (k,.al false f.l) aM) a5 J U aq (bG.own.at_ (aO,.al false [.int .u64 u.val]) aM) ah
theorem ayB{fl:List Nat}{bz b8:Nat}{u:lj}(h:zj p an ar g fl bz b8 (.take u))(aH:u.aY.hL=true):∃fl',(∀b∈fl',b∈fl)/\xR p an ar g fl' bz u.b_/\u.b_.aY.hL=true:=by
 obtain⟨r,hv,ch,k,f0,f,L,cT,bG,hQ,gp,jA,iI,hF,qa,vY,RW,RX,rfl⟩:=h
 have bh:u.aY= .done:=by cases aB:u.aY<;>simp_all[Cd.hL]
 obtain⟨kv,aW,jt,ov,jy,mg,m6⟩:=bG.dG
 simp only[vm,bh]at mg
 subst mg
 rw[List.append_nil]at m6
 subst m6
 have cE:=bG.fl
 have own:=bG.own
 have Ej:Own g ((p.aP,gn p an ar)::(r,.al false f0.l)::((hv,.al false [.ptr r 0,kv,aW])::jt)):=by
  refine⟨fun q av=>own.at_ q ?_,?_⟩
  .simp only[List.mem_cons]at av |-
   rcases av with h|h|h|h
   .exact .inl h
   .exact .inr (.inl h)
   .exact .inr (.inr (.inr (.inl h)))
   .exact .inr (.inr (.inr (.inr h)))
  .have:=own.de
   simp only[List.map_cons,List.nodup_cons,List.mem_cons,not_or]at this |-
   exact⟨⟨this.1.1,this.1.2.2⟩,this.2.1.2,this.2.2.2⟩
 refine⟨bz::ch::(r::((hv,bt.al false [.ptr r 0,kv,aW])::jt).map (·.1)),fun b ad=>?_,⟨r,hv,ch,f0,_,_,⟨bG.hM,?_,Ej,rfl⟩,hQ,gp,fun hm=>iI ?_,fun hm=>hF ?_,qa,rfl⟩,by rw[bG.nv];rfl⟩
 .rw[cE]
  simp only[List.mem_cons,List.map_cons]at ad |-
  rcases ad with h|h|h|h|h
  .exact .inr (.inl h)
  .exact .inr (.inr (.inl h))
  .exact .inr (.inr (.inr (.inl h)))
  .exact .inr (.inr (.inr (.inr (.inr (.inl h)))))
  .exact .inr (.inr (.inr (.inr (.inr (.inr h)))))
 .simp only[rs,bG.nv];exact⟨kv,aW,jt,jy,rfl⟩
 .rw[cE]
  simp only[List.mem_cons,List.map_cons]at hm |-
  rcases hm with h|h|h
  .exact .inl h
  .exact .inr (.inr (.inl h))
  .exact .inr (.inr (.inr h))
 .rw[cE]
  simp only[List.mem_cons,List.map_cons]at hm |-
  rcases hm with h|h|h
  .exact .inl h
  .exact .inr (.inr (.inl h))
  .exact .inr (.inr (.inr h))
end
section
variable{p:ew}{an ar cx:Nat}{g:G}{n:Nat}{a:aE}{K:cj aE}
theorem p0{f:FuncId}{args:List V}(h:aR ct bA f args g n a (fun v g' n' a'=>bm g' n'->K v g' n' a')):aR ct bA f args g n a K:=by
 unfold aR at h |-
 intro σ aa
 refine(h σ aa).mono ?_
 rintro v σ' ⟨g',n',a',az,eK,ah⟩
 exact⟨g',n',a',az,eK,ah fun b c ad=>(eK.at_ b c ad).1⟩
abbrev N2(r:Nat)(K:cj aE):cj aE:=fun _ g' n' a'=>∃(cn:bF) (e d:Bool),g' r=some (.al false cn.l)/\cn.effect= .bool e/\cn.done= .bool d/\∀aT,n'<=aT->(bm g' aT->K (.bN [.bool e,.bool d]) g' aT a')
theorem ayI{fl:List Nat}{bz b8:Nat}{r:ot}{Q:aE->ot->Prop}(cC:ey (jJ p an ar cx) g)(a3:a.an=an/\a.ar=ar)(ap:bm g n)(bf:∀b∈fl,b<n)(h:zj p an ar g fl bz b8 r)(di:r.cJ=false)(av:we p a r Q)(bO:∀a' r',Q a' r'->a'.an=an/\a'.ar=ar)
 (ah:∀a' r' g' n' fl',Q a' r'->Fr g g' n n' fl fl'->zj p an ar g' fl' bz b8 r'->K (.bN [.bool r'.AM,.bool r'.cJ]) g' n' a'):∃fk x f,g b8=some (.al false [.iface fk x])/\nj oi fk "Step" =some (.fn f)/\aR ct bA f [x] g n a K:=by
 obtain⟨rfl,rfl⟩:=a3
 have aD:g p.aP=some (gn p a.an a.ar):=cC (p.aP,gn p a.an a.ar) (by simp[jJ])
 cases r with
 |take u=>
  obtain⟨r,hv,ch,k,f0,f,L,cT,bG,hQ,gp,jA,iI,hF,qa,vY,RW,RX,rfl⟩:=h
  refine⟨191,.ptr k 0,93,jA,by kernel_rfl,?_⟩
  have mm:=ap _ _ hQ
  have cF:=ap _ _ gp
  have zG:=ap _ _ jA
  have ak:g k=some (.al false f.l):=bG.own.at_ (k,.al false f.l) aM
  have aH:f.done= .bool false:=by rw[bG.aZ.done];exact congrArg V.bool di
  have a5:=bG.si
  have GY:k∈cT:=by rw[bG.fl];simp
  have rF:bm (a1 g k (.al false {f with effect:=.bool false}.l)) n:=ap.a1 (ap _ _ ak) _
  have DB:bz≠k:=fun e=>iI (e▸GY)
  have nJ:ch≠k:=fun e=>hF (e▸GY)
  have tn:b8≠k:=fun e=>vY (e▸GY)
  have l0:∀a' bj,Q a' (.take bj)->w3 p (a1 g k (.al false {f with effect:=.bool false}.l)) n cT r hv k (N2 k K) bj a':=by
   intro a' bj fT g' n' fl' JK cn iF az hK cE aw
   have ke:g' k=some (.al false cn.l):=hK.own.at_ (k,.al false cn.l) aM
   obtain⟨c6,cO⟩:=bO a' _ fT
   rw[c6,cO]at hK
   refine⟨cn,_,_,ke,hK.aZ.bH,hK.aZ.done,fun aT cB dC=>ah a' (.take bj) g' aT (b8::bz::ch::fl') fT ⟨I,fun b ad=>?_,fun b ad=>?_,fun b ad bI=>?_⟩ ⟨r,hv,ch,k,JK,cn,iF,fl',hK,?_,?_,?_,fun hm=>?_,fun hm=>?_,qa,fun hm=>?_,RW,RX,rfl⟩⟩
   .simp only[List.mem_cons]at ad
    rcases ad with rfl|rfl|rfl|ad
    .omega
    .omega
    .omega
    .exact hK.fn dC b ad
   .simp only[List.mem_cons]at ad |-
    rcases ad with rfl|rfl|rfl|ad
    .exact .inl (.inl rfl)
    .exact .inl (.inr (.inl rfl))
    .exact .inl (.inr (.inr (.inl rfl)))
    .rcases cE b ad with h|h
     .exact .inl (.inr (.inr (.inr h)))
     .exact .inr h
   .simp only[List.mem_cons,not_or]at bI
    have jf:¬k=b:=fun e=>bI.2.2.2 (e▸GY)
    rw[aw b ad bI.2.2.2,bJ,if_neg jf]
   .rw[aw bz mm iI,bJ,if_neg (fun e=>DB e.symm)];exact hQ
   .rw[aw ch cF hF,bJ,if_neg (fun e=>nJ e.symm)];exact gp
   .rw[aw b8 zG vY,bJ,if_neg (fun e=>tn e.symm)];exact jA
   .rcases cE _ hm with h|h
    .exact iI h
    .omega
   .rcases cE _ hm with h|h
    .exact hF h
    .omega
   .rcases cE _ hm with h|h
    .exact vY h
    .omega
  obtain⟨id,first,cap,jh,gW⟩:=az1 (Q:=fun a' bj=>Q a' (.take bj)) a5 rF av l0
  refine p0 (GD ak aH jh (aR.mono gW fun v2 ba aT b7 cB eJ=>?_))
  obtain⟨cn,e,d,J,U,aq,aK⟩:=eJ
  exact⟨cn,e,d,J,U,aq,fun cq iJ gB=>aK cq iJ gB⟩
 |leave room bH cJ=>
  obtain⟨k,f,bG,jA,bp,rfl⟩:=h
  refine⟨191,.ptr k 0,93,jA,by kernel_rfl,?_⟩
  have Ge:cJ=false:=di
  subst Ge
  have zG:=ap _ _ jA
  have ak:g k=some (.al false f.l):=bG.own.at_ (k,.al false f.l) aM
  have cd:=ap _ _ ak
  have rF:bm (a1 g k (.al false {f with effect:=.bool false}.l)) n:=ap.a1 cd _
  obtain⟨ha,w,hw,av⟩:=av
  refine p0 (GD ak bG.done bG.next ?_)
  refine aDl bG.si rF ha hw fun g' n' cn az hK aw=>?_
  have ke:g' k=some (.al false cn.l):=hK.own.at_ (k,.al false cn.l) aM
  refine⟨cn,_,_,ke,hK.bH,hK.done,fun aT cB dC=>ah _ (.leave room false true) g' aT [b8,k] av ⟨I,fun b ad=>?_,fun b ad=>.inl ad,fun b ad bI=>?_⟩ ⟨k,cn,hK,?_,bp,rfl⟩⟩
  .simp only[List.mem_cons,List.not_mem_nil,or_false]at ad
   rcases ad with rfl|rfl<;>omega
  .simp only[List.mem_cons,List.not_mem_nil,or_false,not_or]at bI
   rw[aw b ad bI.2,bJ,if_neg (fun e=>bI.2 e.symm)]
  .rw[aw b8 zG bp,bJ,if_neg (fun e=>bp e.symm)];exact jA
theorem ayD{key val:Int}{ch:Nat}(cC:ey (jJ p an ar cx) g)(a3:a.an=an/\a.ar=ar)(ap:bm g n)(hv:g ch=some (.al false [.int .u64 val]))(cy:1<=p.B/\p.B<1000)
 (ah:∀g' n' fl x l,(∃k,(0<=k/\k<p.B)/\l=(⟨key,val,k,0,0,0,0,0,0,false,.draw⟩:gD))->Fr g g' n n' [] fl->Gt p an ar g' fl x l->x.cell=true/\x.cells=[x]/\x.known=true/\V.same 40 x x=true->K x g' n' a):eG (.fn (.func 88) [] [.ptr cx 0]) [.agg [.int .i64 2,.int .u64 key,.slice ch 0 1 1 1,.int .i64 0,.int .i64 0]] g n a K:=by
 obtain⟨rfl,rfl⟩:=a3
 have aD:g p.aP=some (gn p a.an a.ar):=cC (p.aP,gn p a.an a.ar) (by simp[jJ])
 have aJ:g cx=some (.al false [.ptr p.aP 0]):=cC (cx,.al false [.ptr p.aP 0]) (by simp[jJ])
 have da:=ap _ _ aD
 have sE:=ap _ _ aJ
 have cF:=ap _ _ hv
 refine⟨_,_,_,rfl,?_⟩
 refine p0 ?_
 refine bE i88 fun N aF=>?_
 refine aL Pc (cc aJ (ag (I:cx<n)) (ag (I:p.aP<n)) (ag (I:ch<n))) ?_
 refine dO fun cf=>ay_ (key:=key) (val:=val) ?_ cf ?_ cy fun bY bq r gI f1 Iu k g4 hU bG mM c5=>?_
 .exact bc (aN aD (ag (I:p.aP<n)))
 .exact bc (aN hv (ag (I:ch<n)))
 intro dE
 have cV:r<bq:=dE _ _ (bG.own.at_ (r,.al false f1.l) aM)
 refine dl (aN aev.eq_1 Pc) ?_
 apply aF
 refine a6 i88.eq_1 ?_
 intro _
 refine .all fun dC=>?_
 refine ah _ _ gI _ _ ⟨k,hU,rfl⟩ ⟨I,fun b ad=>bG.fn dE b ad,fun b ad=>.inr (by have:=mM b ad;omega),fun b ad _=>?_⟩ ⟨r,f1,Iu,rfl,bG⟩ ⟨rfl,rfl,rfl,dW⟩
 rw[c5 b I,bJ,if_neg I]
theorem ayF{fl:List Nat}{x:V}{l:gD}{Q:aE->gD->Prop}(cC:ey (jJ p an ar cx) g)(a3:a.an=an/\a.ar=ar)(ap:bm g n)(bf:∀b∈fl,b<n)(h:Gt p an ar g fl x l)(di:l.aY.hL=false)(av:lY p a {l with bH:=false} Q)(bO:∀a' l',Q a' l'->a'.an=an/\a'.ar=ar)
 (ah:∀a' l' g' n' fl',Q a' l'->Fr g g' n n' fl fl'->Gt p an ar g' fl' x l'->K (.bN [.bool l'.bH,.bool l'.aY.hL]) g' n' a'):∃fk y f,x= .iface fk y/\nj oi fk "Step" =some (.fn f)/\aR ct bA f [y] g n a K:=by
 obtain⟨rfl,rfl⟩:=a3
 obtain⟨r,f,L,rfl,bG⟩:=h
 refine⟨191,.ptr r 0,93,rfl,by kernel_rfl,?_⟩
 have ak:g r=some (.al false f.l):=bG.own.at_ (r,.al false f.l) aM
 have aH:f.done= .bool false:=by rw[bG.aZ.done,di]
 have wI:r∈fl:=by rw[bG.fl];simp
 have rF:bm (a1 g r (.al false {f with effect:=.bool false}.l)) n:=ap.a1 (ap _ _ ak) _
 have l0:∀a' bj,Q a' bj->jc p (a1 g r (.al false {f with effect:=.bool false}.l)) n fl r (N2 r K) bj a':=by
  intro a' bj fT g' n' fl' cn iF az hK cE aw
  have ke:g' r=some (.al false cn.l):=hK.own.at_ (r,.al false cn.l) aM
  obtain⟨c6,cO⟩:=bO a' _ fT
  rw[c6,cO]at hK
  refine⟨cn,_,_,ke,hK.aZ.bH,hK.aZ.done,fun aT cB dC=>ah a' bj g' aT fl' fT ⟨I,fun b ad=>hK.fn dC b ad,fun b ad=>cE b ad,fun b ad bI=>?_⟩ ⟨r,cn,iF,rfl,hK⟩⟩
  have jf:¬r=b:=fun e=>bI (e▸wI)
  rw[aw b ad bI,bJ,if_neg jf]
 obtain⟨id,first,cap,jh,gW⟩:=ay1 bG.si rF av l0
 refine p0 (GD ak aH jh (aR.mono gW fun v2 ba aT b7 cB eJ=>?_))
 obtain⟨cn,e,d,J,U,aq,aK⟩:=eJ
 exact⟨cn,e,d,J,U,aq,fun cq iJ gB=>aK cq iJ gB⟩
end
