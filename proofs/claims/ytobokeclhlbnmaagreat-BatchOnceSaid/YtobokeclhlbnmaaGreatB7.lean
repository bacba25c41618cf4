/- Part of the proof of BatchOnce, for every input. -/
import Derived.Test.YtobokeclhlbnmaaGreatB6
set_option linter.all false
namespace Go.Proofs.Run
open Go Go.Abs
attribute [local irreducible] b9 cI cr cg aR
set_option maxRecDepth 100000
set_option maxHeartbeats 4000000
section
theorem ma{x y:Nat}(h:x≠y):(x=y)=False:=eq_false h
theorem mb{x y:Nat}(h:x≠y):(y=x)=False:=eq_false h.symm
def ext(fl:List Nat)(n n':Nat):List Nat:=fl++List.range' n (n'-n)
theorem e1{fl:List Nat}{n n' b:Nat}:b∈ext fl n n'↔b∈fl\/(n<=b/\b<n'):=by
 simp only[ext,List.mem_append,List.mem_range'_1]
 constructor
 .rintro(h|⟨J,U⟩)
  .exact .inl h
  .exact .inr ⟨J,I⟩
 .rintro(h|⟨J,U⟩)
  .exact .inl h
  .exact .inr ⟨J,I⟩
def dI(g:G)(fl:List Nat)(r b:Nat)(l:List V):Prop:=g b=some (.al false l)/\b∈fl/\b≠r
theorem dI.mono{g g':G}{fl fl':List Nat}{r b:Nat}{l:List V}(h:dI g fl r b l)(aV:∀x∈fl,x∈fl')(aw:∀x∈fl,x≠r->g' x=g x):dI g' fl' r b l:=
 ⟨by rw[aw b h.2.1 h.2.2];exact h.1,aV b h.2.1,h.2.2⟩
structure ff where
 aP:Nat
 E:Int
 R:Int
def fK(p:ff)(an ar:Nat):bt:=.al false [.ptr an 0,.ptr ar 0,.int .i64 5,.int .i64 p.E,.int .i64 1,.int .i64 0,.int .i64 0,.int .i64 p.R]
structure c3 where
 key:Int
 val:Int
 kind:Int
 stays:Bool
 bk:Int
 bo:Int
 eo:Int
 ep:Int
 a7:Int
 made:Int
 bH:Bool
 cJ:Bool
 aO:Option Nat:=none
structure at5(p:ff)(u:c3)(f:bu):Prop where
 x:f.x= .ptr p.aP 0
 hX:f.hX= .int .i64 u.kind
 g5:f.g5= .int .u64 u.key
 h_:f.h_= .int .i64 0
 val:f.val= .int .u64 u.val
 bH:f.effect= .bool u.bH
 done:f.done= .bool u.cJ
 stays:f.stays= .bool u.stays
 bk:f.bk= .int .i64 u.bk
 bo:f.bo= .int .i64 u.bo
 eo:f.eo= .int .i64 u.eo
 ep:f.ep= .int .i64 u.ep
 a7:f.a7= .int .i64 u.a7
 made:f.made= .int .i64 u.made
 j8:∀b,u.aO=some b->f.hl= .int .i64 0/\f.gJ= .slice b 0 1 1 1/\f.fV= .int .u64 0/\f.fW= .int .i64 0
inductive li where
 |s7
 |set
 |sS
 |uT
 |oz (last:Int)
 |cut (last:Int)
 |rR (k:li)
 |vb (k:li)
 |sD (k:li)
 |mw (h:Int) (k:li)
 |tR (aO:Nat) (w:Int)
inductive jw where
 |a1
 |b_ (hv:Nat)
inductive w4 where
 |lf (e:jw)
 |pJ (e:jw)
 |bZ
 |rc (k:li)
 |r7 (h:Int) (k:li)
 |cell
def iv(g:G)(fl:List Nat)(r:Nat):li->V->Prop
 | .s7,v=>v= .fn (.func 184) [.ptr r 0] []
 | .set,v=>∃b,v= .fn (.func 291) [] [.ptr b 0]/\dI g fl r b [.ptr r 0]
 | .sS,v=>∃b,v= .fn (.func 332) [] [.ptr b 0]/\dI g fl r b [.ptr r 0]
 | .uT,v=>∃b,v= .fn (.func 301) [] [.ptr b 0]/\dI g fl r b [.ptr r 0]
 | .oz last,v=>∃b c,v= .fn (.func 303) [] [.ptr b 0,.ptr c 0]/\dI g fl r b [.ptr r 0]/\dI g fl r c [.int .i64 last]
 | .cut last,v=>∃b c,v= .fn (.func 302) [] [.ptr b 0,.ptr c 0]/\dI g fl r b [.ptr r 0]/\dI g fl r c [.int .i64 last]
 | .rR k,v=>∃b c ca,v= .fn (.func 336) [] [.ptr b 0,.ptr c 0]/\dI g fl r b [.ptr r 0]/\dI g fl r c [ca]/\iv g fl r k ca
 | .vb k,v=>∃b c ca,v= .fn (.func 337) [] [.ptr b 0,.ptr c 0]/\dI g fl r b [.ptr r 0]/\dI g fl r c [ca]/\iv g fl r k ca
 | .sD k,v=>∃b c ca,v= .fn (.func 338) [] [.ptr b 0,.ptr c 0]/\dI g fl r b [.ptr r 0]/\dI g fl r c [ca]/\iv g fl r k ca
 | .mw h k,v=>∃b c d ca,v= .fn (.func 350) [] [.ptr b 0,.ptr c 0,.ptr d 0]/\dI g fl r b [.ptr r 0]/\dI g fl r c [.int .i64 h]/\dI g fl r d [ca]/\iv g fl r k ca
 | .tR aO w,v=>∃b,v= .fn (.func 296) [] [.ptr b 0]/\dI g fl r b [.ptr r 0]/\dI g fl r aO [.int .u64 w]
def ud(g:G)(fl:List Nat)(r:Nat):jw->V->V->Prop
 | .a1,hn,g7=>(∃b,hn= .fn (.func 240) [] [.ptr b 0]/\dI g fl r b [.ptr r 0])/\g7= .fn (.func 242) [.ptr r 0] []
 | .b_ hv,hn,g7=>∃b,hn= .fn (.func 178) [] [.ptr b 0]/\g7= .fn (.func 179) [] [.ptr b 0]/\dI g fl r b [.ptr hv 0]
def qx(g:G)(fl:List Nat)(r:Nat)(e:jw)(hD iQ iR iD:Nat):Prop:=
 ∃hn g7,dI g fl r hD [.ptr r 0]/\dI g fl r iQ [hn]/\dI g fl r iR [g7]/\dI g fl r iD [.fn (.func 244) [] [.ptr hD 0,.ptr iR 0,.ptr iQ 0,.ptr iD 0]]/\ud g fl r e hn g7
def oW(g:G)(fl:List Nat)(r:Nat):w4->V->Prop
 | .lf e,v=>∃hD iQ iR iD,v= .fn (.func 246) [] [.ptr hD 0,.ptr iR 0,.ptr iQ 0,.ptr iD 0]/\qx g fl r e hD iQ iR iD
 | .pJ e,v=>∃hD iQ iR iD,v= .fn (.func 247) [] [.ptr iQ 0,.ptr hD 0,.ptr iD 0]/\qx g fl r e hD iQ iR iD
 | .bZ,v=>∃b,v= .fn (.func 299) [] [.ptr b 0]/\dI g fl r b [.ptr r 0]
 | .rc k,v=>∃b c ca,v= .fn (.func 334) [] [.ptr b 0,.ptr c 0]/\dI g fl r b [.ptr r 0]/\dI g fl r c [ca]/\iv g fl r k ca
 | .r7 h k,v=>∃b c d ca,v= .fn (.func 349) [] [.ptr b 0,.ptr c 0,.ptr d 0]/\dI g fl r b [.ptr r 0]/\dI g fl r c [.int .i64 h]/\dI g fl r d [ca]/\iv g fl r k ca
 | .cell,v=>∃b,v= .fn (.func 294) [] [.ptr b 0]/\dI g fl r b [.ptr r 0]
section
variable{g g':G}{fl fl':List Nat}{r:Nat}
theorem iv.mono(aV:∀x∈fl,x∈fl')(aw:∀x∈fl,x≠r->g' x=g x):∀{k:li} {v:V},iv g fl r k v->iv g' fl' r k v
 | .s7,v,h=>h
 | .set,v,⟨b,J,U⟩=>⟨b,J,U.mono aV aw⟩
 | .sS,v,⟨b,J,U⟩=>⟨b,J,U.mono aV aw⟩
 | .uT,v,⟨b,J,U⟩=>⟨b,J,U.mono aV aw⟩
 | .oz last,v,⟨b,c,J,U,aq⟩=>⟨b,c,J,U.mono aV aw,aq.mono aV aw⟩
 | .cut last,v,⟨b,c,J,U,aq⟩=>⟨b,c,J,U.mono aV aw,aq.mono aV aw⟩
 | .rR k,v,⟨b,c,ca,J,U,aq,aK⟩=>⟨b,c,ca,J,U.mono aV aw,aq.mono aV aw,iv.mono aV aw aK⟩
 | .vb k,v,⟨b,c,ca,J,U,aq,aK⟩=>⟨b,c,ca,J,U.mono aV aw,aq.mono aV aw,iv.mono aV aw aK⟩
 | .sD k,v,⟨b,c,ca,J,U,aq,aK⟩=>⟨b,c,ca,J,U.mono aV aw,aq.mono aV aw,iv.mono aV aw aK⟩
 | .mw h k,v,⟨b,c,d,ca,J,U,aq,aK,bx⟩=>⟨b,c,d,ca,J,U.mono aV aw,aq.mono aV aw,aK.mono aV aw,iv.mono aV aw bx⟩
 | .tR aO w,v,⟨b,J,U,aq⟩=>⟨b,J,U.mono aV aw,aq.mono aV aw⟩
theorem ud.mono(aV:∀x∈fl,x∈fl')(aw:∀x∈fl,x≠r->g' x=g x):∀{e:jw} {hn g7:V},ud g fl r e hn g7->ud g' fl' r e hn g7
 | .a1,hn,g7,⟨⟨b,J,U⟩,aq⟩=>⟨⟨b,J,U.mono aV aw⟩,aq⟩
 | .b_ hv,hn,g7,⟨b,J,U,aq⟩=>⟨b,J,U,aq.mono aV aw⟩
theorem qx.mono(aV:∀x∈fl,x∈fl')(aw:∀x∈fl,x≠r->g' x=g x){e:jw}{hD iQ iR iD:Nat}(h:qx g fl r e hD iQ iR iD):qx g' fl' r e hD iQ iR iD:=by
 obtain⟨hn,g7,J,U,aq,aK,bx⟩:=h
 exact⟨hn,g7,J.mono aV aw,U.mono aV aw,aq.mono aV aw,aK.mono aV aw,bx.mono aV aw⟩
theorem oW.mono(aV:∀x∈fl,x∈fl')(aw:∀x∈fl,x≠r->g' x=g x):∀{k:w4} {v:V},oW g fl r k v->oW g' fl' r k v
 | .lf e,v,⟨hD,iQ,iR,iD,J,U⟩=>⟨hD,iQ,iR,iD,J,U.mono aV aw⟩
 | .pJ e,v,⟨hD,iQ,iR,iD,J,U⟩=>⟨hD,iQ,iR,iD,J,U.mono aV aw⟩
 | .bZ,v,⟨b,J,U⟩=>⟨b,J,U.mono aV aw⟩
 | .rc k,v,⟨b,c,ca,J,U,aq,aK⟩=>⟨b,c,ca,J,U.mono aV aw,aq.mono aV aw,aK.mono aV aw⟩
 | .r7 h k,v,⟨b,c,d,ca,J,U,aq,aK,bx⟩=>⟨b,c,d,ca,J,U.mono aV aw,aq.mono aV aw,aK.mono aV aw,bx.mono aV aw⟩
 | .cell,v,⟨b,J,U⟩=>⟨b,J,U.mono aV aw⟩
theorem iv.val:∀{k:li} {v:V},iv g fl r k v->v.cell=true/\v.cells=[v]/\v.known=true/\V.same 40 v v=true
 | .s7,v,h=>by subst h;exact⟨rfl,rfl,rfl,kS aM aM rfl rfl⟩
 | .set,v,⟨b,h,_⟩=>by subst h;exact⟨rfl,rfl,rfl,kS aM aM rfl rfl⟩
 | .sS,v,⟨b,h,_⟩=>by subst h;exact⟨rfl,rfl,rfl,kS aM aM rfl rfl⟩
 | .uT,v,⟨b,h,_⟩=>by subst h;exact⟨rfl,rfl,rfl,kS aM aM rfl rfl⟩
 | .oz last,v,⟨b,c,h,_⟩=>by subst h;exact⟨rfl,rfl,rfl,kS aM aM rfl rfl⟩
 | .cut last,v,⟨b,c,h,_⟩=>by subst h;exact⟨rfl,rfl,rfl,kS aM aM rfl rfl⟩
 | .rR k,v,⟨b,c,ca,h,_⟩=>by subst h;exact⟨rfl,rfl,rfl,kS aM aM rfl rfl⟩
 | .vb k,v,⟨b,c,ca,h,_⟩=>by subst h;exact⟨rfl,rfl,rfl,kS aM aM rfl rfl⟩
 | .sD k,v,⟨b,c,ca,h,_⟩=>by subst h;exact⟨rfl,rfl,rfl,kS aM aM rfl rfl⟩
 | .mw h k,v,⟨b,c,d,ca,ay,_⟩=>by subst ay;exact⟨rfl,rfl,rfl,kS aM aM rfl rfl⟩
 | .tR aO w,v,⟨b,h,_⟩=>by subst h;exact⟨rfl,rfl,rfl,kS aM aM rfl rfl⟩
theorem ud.val:∀{e:jw} {hn g7:V},ud g fl r e hn g7->(hn.cell=true/\hn.cells=[hn]/\hn.known=true/\V.same 40 hn hn=true)/\(g7.cell=true/\g7.cells=[g7]/\g7.known=true/\V.same 40 g7 g7=true)
 | .a1,hn,g7,⟨⟨b,h,_⟩,aq⟩=>by subst h aq;exact⟨⟨rfl,rfl,rfl,kS aM aM rfl rfl⟩,rfl,rfl,rfl,kS aM aM rfl rfl⟩
 | .b_ hv,hn,g7,⟨b,h,ay,_⟩=>by subst h ay;exact⟨⟨rfl,rfl,rfl,kS aM aM rfl rfl⟩,rfl,rfl,rfl,kS aM aM rfl rfl⟩
theorem oW.val:∀{k:w4} {v:V},oW g fl r k v->v.cell=true/\v.cells=[v]/\v.known=true/\V.same 40 v v=true
 | .lf e,v,⟨hD,iQ,iR,iD,h,_⟩=>by subst h;exact⟨rfl,rfl,rfl,kS aM aM rfl rfl⟩
 | .pJ e,v,⟨hD,iQ,iR,iD,h,_⟩=>by subst h;exact⟨rfl,rfl,rfl,kS aM aM rfl rfl⟩
 | .bZ,v,⟨b,h,_⟩=>by subst h;exact⟨rfl,rfl,rfl,kS aM aM rfl rfl⟩
 | .rc k,v,⟨b,c,ca,h,_⟩=>by subst h;exact⟨rfl,rfl,rfl,kS aM aM rfl rfl⟩
 | .r7 h k,v,⟨b,c,d,ca,ay,_⟩=>by subst ay;exact⟨rfl,rfl,rfl,kS aM aM rfl rfl⟩
 | .cell,v,⟨b,h,_⟩=>by subst h;exact⟨rfl,rfl,rfl,kS aM aM rfl rfl⟩
end
inductive gl where
 |draw
 |wait (bK:Int)
 |ld (h i:Int) (k:w4)
 |bX (h i w:Int) (k:li)
 |drop
 |more (n:Int)
 |none
inductive aJH where
 |a1
 |b_ (hv:Nat)
def wX(g:G)(fl:List Nat)(r:Nat):jw->V->Prop
 | .a1,v=>v= .fn (.func 175) [.ptr r 0] []
 | .b_ hv,v=>∃b,v= .fn (.func 176) [] [.ptr b 0]/\dI g fl r b [.ptr hv 0]
def atc(p:ff)(an:Nat)(e:jw)(g:G)(fl:List Nat)(r:Nat):gl->V->Prop
 | .draw,v=>∃b c t ch,v= .fn (.func 237) [] [.ptr b 0,.ptr c 0]/\dI g fl r b [.ptr t 0]/\dI g fl r c [ch]/\wX g fl r e ch/\b≠t/\c≠t/\t≠r/\t∈fl/\g t=some (lc an p.R 0 0 (.fn (.func 211) [.ptr t 0] []))/\(∀x,ch= .fn (.func 176) [] [.ptr x 0]->x≠t)
 | .wait bK,v=>∃b c t ch,v= .fn (.func 237) [] [.ptr b 0,.ptr c 0]/\dI g fl r b [.ptr t 0]/\dI g fl r c [ch]/\wX g fl r e ch/\b≠t/\c≠t/\t≠r/\t∈fl/\g t=some (lc an p.R 0 bK (.fn (.func 265) [.ptr t 0] []))/\(∀x,ch= .fn (.func 176) [] [.ptr x 0]->x≠t)
 | .ld h i k,v=>∃nK qg pz ca,v= .fn (.func 304) [] [.ptr nK 0,.ptr qg 0,.ptr pz 0]/\dI g fl r nK [.ptr r 0]/\dI g fl r qg [.int .i64 h,.int .i64 i]/\dI g fl r pz [ca]/\oW g fl r k ca
 | .bX h i w k,v=>∃sO wK wL wM ca,v= .fn (.func 331) [] [.ptr sO 0,.ptr wK 0,.ptr wL 0,.ptr wM 0]/\dI g fl r sO [.ptr r 0]/\dI g fl r wK [.int .i64 h,.int .i64 i]/\dI g fl r wL [.int .u64 w]/\dI g fl r wM [ca]/\iv g fl r k ca
 | .drop,v=>∃b,v= .fn (.func 251) [] [.ptr b 0]/\dI g fl r b [.ptr r 0]
 | .more n,v=>∃b c,v= .fn (.func 335) [] [.ptr b 0,.ptr c 0]/\dI g fl r b [.ptr r 0]/\dI g fl r c [.int .u64 n]
 | .none,v=>True
structure dH(p:ff)(an ar:Nat)(e:jw)(g:G)(fl:List Nat)(r:Nat)(u:c3)(nx:gl)(f:bu):Prop where
 a0:at5 p u f
 ak:g r=some (.al false f.l)
 dk:r∈fl
 aj:g p.aP=some (fK p an ar)
 df:p.aP≠r
 eM:p.aP∉fl
 nx:atc p an e g fl r nx f.next
variable{g:G}{n:Nat}{a:aE}{K:cj aE}{p:ff}{e:jw}{fl:List Nat}{r:Nat}{u:c3}{f:bu}
def eR(p:ff)(e:jw)(g:G)(n:Nat)(fl:List Nat)(r:Nat)(K:cj aE)(u:c3)(nx:gl)(a:aE):Prop:=
 ∀g' n' fl' cn,n<=n'->dH p a.an a.ar e g' fl' r u nx cn->(∀b∈fl',b<n')->(∀b∈fl',b∈fl\/n<=b)->(∀b,b<n->b≠r->g' b=g b)->K (.bN []) g' n' a
theorem eR.trans{nx:gl}{bY:G}{bq:Nat}{gI:List Nat}(h:eR p e g n fl r K u nx a)(az:n<=bq)(cE:∀b∈gI,b∈fl\/n<=b)(aw:∀b,b<n->b≠r->bY b=g b):eR p e bY bq gI r K u nx a:=by
 intro g' n' fl' cn oF ak lU oD p7
 refine h g' n' fl' cn I ak lU (fun b ad=>?_) fun b ad bI=>?_
 .rcases oD b ad with J|J
  .exact cE b J
  .exact .inr I
 .rw[p7 b I bI,aw b ad bI]
end
section
variable{g:G}{n:Nat}{a:aE}{K:cj aE}{p:ff}{e:jw}{fl:List Nat}{r:Nat}{u:c3}{nx:gl}{f:bu}
theorem dH.any(h:dH p a.an a.ar e g fl r u nx f):dH p a.an a.ar e g fl r u .none f:=⟨h.a0,h.ak,h.dk,h.aj,h.df,h.eM,trivial⟩
theorem Bv{bd i:Int}{k:w4}{ca:V}(h:dH p a.an a.ar e g fl r u nx f)(ap:bm g n)(bf:∀b∈fl,b<n)(af:oW g fl r k ca)(bg:eR p e g n fl r K u (.ld bd i k) a):
 aR ct bA 245 [.ptr r 0,.agg [.int .i64 bd,.int .i64 i],ca] g n a K:=by
 obtain⟨a0,ak,dk,aj,df,eM,_⟩:=h
 have cV:=ap _ _ ak
 have da:=ap _ _ aj
 obtain⟨v1,v2,fm,v4⟩:=af.val
 refine bE i245 fun N aF=>?_
 refine aL auF (gq ak v1 v2 fm v4 @ej (ag (I:r<n))) ?_
 apply aF
 refine a6 i245.eq_1 ?_
 intro _
 refine .all (bg _ (n+3) (ext fl n (n+3)) {f with next:=.fn (.func 304) [] [.ptr n 0,.ptr (n+1) 0,.ptr (n+2) 0]} I ⟨?_,?_,?_,?_,df,?_,?_⟩ ?_ ?_ ?_)
 .exact⟨a0.x,a0.hX,a0.g5,a0.h_,a0.val,a0.bH,a0.done,a0.stays,a0.bk,a0.bo,a0.eo,a0.ep,a0.a7,a0.made,a0.j8⟩
 .exact bc @ej
 .exact e1.2 (.inl dk)
 .exact bc (cc aj (ma df) (mb df) (ag (I:p.aP<n)))
 .intro hm
  rcases e1.1 hm with h|h
  .exact eM h
  .omega
 .refine⟨n,n+1,n+2,ca,rfl,⟨?_,e1.2 (.inr I),I⟩,⟨?_,e1.2 (.inr I),I⟩,⟨?_,e1.2 (.inr I),I⟩,af.mono (fun x aj=>e1.2 (.inl aj)) fun x aj iL=>?_⟩
  .exact bc (ag (I:r<n))
  .exact bc (ag (I:r<n))
  .exact bc (ag (I:r<n))
  .have c4:(r=x)=False:=eq_false fun e=>iL e.symm
   have sB:=bf x aj
   exact bc (aN c4 (ag (I:x<n)))
 .intro b ad
  rcases e1.1 ad with h|h
  .have:=bf b h;omega
  .exact h.2
 .intro b ad
  rcases e1.1 ad with h|h
  .exact .inl h
  .exact .inr h.1
 .intro b ad bI
  have c4:(r=b)=False:=eq_false fun e=>bI e.symm
  exact bc (aN c4 (ag (I:b<n)))
theorem zI{bd i w:Int}{k:li}{ca:V}(h:dH p a.an a.ar e g fl r u nx f)(ap:bm g n)(bf:∀b∈fl,b<n)(af:iv g fl r k ca)(bg:eR p e g n fl r K u (.bX bd i w k) a):
 aR ct bA 290 [.ptr r 0,.agg [.int .i64 bd,.int .i64 i],.int .u64 w,ca] g n a K:=by
 obtain⟨a0,ak,dk,aj,df,eM,_⟩:=h
 have cV:=ap _ _ ak
 have da:=ap _ _ aj
 obtain⟨v1,v2,fm,v4⟩:=af.val
 refine bE i290 fun N aF=>?_
 refine aL auJ (gq ak v1 v2 fm v4 @ej (ag (I:r<n))) ?_
 apply aF
 refine a6 i290.eq_1 ?_
 intro _
 refine .all (bg _ (n+4) (ext fl n (n+4)) {f with next:=.fn (.func 331) [] [.ptr n 0,.ptr (n+1) 0,.ptr (n+2) 0,.ptr (n+3) 0]} I ⟨?_,?_,?_,?_,df,?_,?_⟩ ?_ ?_ ?_)
 .exact⟨a0.x,a0.hX,a0.g5,a0.h_,a0.val,a0.bH,a0.done,a0.stays,a0.bk,a0.bo,a0.eo,a0.ep,a0.a7,a0.made,a0.j8⟩
 .exact bc @ej
 .exact e1.2 (.inl dk)
 .exact bc (cc aj (ma df) (mb df) (ag (I:p.aP<n)))
 .intro hm
  rcases e1.1 hm with h|h
  .exact eM h
  .omega
 .refine⟨n,n+1,n+2,n+3,ca,rfl,⟨?_,e1.2 (.inr I),I⟩,⟨?_,e1.2 (.inr I),I⟩,⟨?_,e1.2 (.inr I),I⟩,⟨?_,e1.2 (.inr I),I⟩,af.mono (fun x aj=>e1.2 (.inl aj)) fun x aj iL=>?_⟩
  .exact bc (ag (I:r<n))
  .exact bc (ag (I:r<n))
  .exact bc (ag (I:r<n))
  .exact bc (ag (I:r<n))
  .have c4:(r=x)=False:=eq_false fun e=>iL e.symm
   have sB:=bf x aj
   exact bc (aN c4 (ag (I:x<n)))
 .intro b ad
  rcases e1.1 ad with h|h
  .have:=bf b h;omega
  .exact h.2
 .intro b ad
  rcases e1.1 ad with h|h
  .exact .inl h
  .exact .inr h.1
 .intro b ad bI
  have c4:(r=b)=False:=eq_false fun e=>bI e.symm
  exact bc (aN c4 (ag (I:b<n)))
theorem S3{w:Int}(h:dH p a.an a.ar e g fl r u nx f)(ap:bm g n)(bf:∀b∈fl,b<n)(bg:eR p e g n fl r K u (.more w) a):
 aR ct bA 297 [.ptr r 0,.int .u64 w] g n a K:=by
 obtain⟨a0,ak,dk,aj,df,eM,_⟩:=h
 have cV:=ap _ _ ak
 have da:=ap _ _ aj
 refine bE i297 fun N aF=>?_
 refine aL auL (cw ak @ej (ag (I:r<n))) ?_
 apply aF
 refine a6 i297.eq_1 ?_
 intro _
 refine .all (bg _ (n+2) (ext fl n (n+2)) {f with next:=.fn (.func 335) [] [.ptr n 0,.ptr (n+1) 0]} I ⟨?_,?_,?_,?_,df,?_,?_⟩ ?_ ?_ ?_)
 .exact⟨a0.x,a0.hX,a0.g5,a0.h_,a0.val,a0.bH,a0.done,a0.stays,a0.bk,a0.bo,a0.eo,a0.ep,a0.a7,a0.made,a0.j8⟩
 .exact bc @ej
 .exact e1.2 (.inl dk)
 .exact bc (cc aj (ma df) (mb df) (ag (I:p.aP<n)))
 .intro hm
  rcases e1.1 hm with h|h
  .exact eM h
  .omega
 .refine⟨n,n+1,rfl,⟨?_,e1.2 (.inr I),I⟩,⟨?_,e1.2 (.inr I),I⟩⟩
  .exact bc (ag (I:r<n))
  .exact bc (ag (I:r<n))
 .intro b ad
  rcases e1.1 ad with h|h
  .have:=bf b h;omega
  .exact h.2
 .intro b ad
  rcases e1.1 ad with h|h
  .exact .inl h
  .exact .inr h.1
 .intro b ad bI
  have c4:(r=b)=False:=eq_false fun e=>bI e.symm
  exact bc (aN c4 (ag (I:b<n)))
theorem Bs(h:dH p a.an a.ar e g fl r u nx f)(ap:bm g n)(bf:∀b∈fl,b<n)(J:u.stays=true->eR p e g n fl r K {u with cJ:=true} .none a)(U:u.stays=false->eR p e g n fl r K u .drop a):
 aR ct bA 184 [.ptr r 0] g n a K:=by
 obtain⟨a0,ak,dk,aj,df,eM,_⟩:=h
 have cV:=ap _ _ ak
 have da:=ap _ _ aj
 refine bE i184 fun N aF=>?_
 cases aa:u.stays with
 |true=>
 have eK:f.stays= .bool true:=by rw[a0.stays,aa]
 refine aL OE (cc ak eK @ej (ag (I:r<n))) ?_
 apply aF
 refine a6 i184.eq_1 ?_
 intro _
 refine .all (J aa _ (n+1) (ext fl n (n+1)) {f with done:=.bool true} I ⟨?_,?_,?_,?_,df,?_,trivial⟩ ?_ ?_ ?_)
 .exact⟨a0.x,a0.hX,a0.g5,a0.h_,a0.val,a0.bH,rfl,eK▸a0.stays,a0.bk,a0.bo,a0.eo,a0.ep,a0.a7,a0.made,a0.j8⟩
 .exact bc (aN @ej eK)
 .exact e1.2 (.inl dk)
 .exact bc (cc aj (ma df) (mb df) (ag (I:p.aP<n)))
 .intro hm
  rcases e1.1 hm with h|h
  .exact eM h
  .omega
 .intro b ad
  rcases e1.1 ad with h|h
  .have:=bf b h;omega
  .exact h.2
 .intro b ad
  rcases e1.1 ad with h|h
  .exact .inl h
  .exact .inr h.1
 .intro b ad bI
  have c4:(r=b)=False:=eq_false fun e=>bI e.symm
  exact bc (aN c4 (ag (I:b<n)))
 |false=>
 have eK:f.stays= .bool false:=by rw[a0.stays,aa]
 refine aL OE (cc ak eK @ej (ag (I:r<n))) ?_
 apply aF
 refine a6 i184.eq_1 ?_
 intro _
 refine .all (U aa _ (n+1) (ext fl n (n+1)) {f with next:=.fn (.func 251) [] [.ptr n 0]} I ⟨?_,?_,?_,?_,df,?_,?_⟩ ?_ ?_ ?_)
 .exact⟨a0.x,a0.hX,a0.g5,a0.h_,a0.val,a0.bH,a0.done,a0.stays,a0.bk,a0.bo,a0.eo,a0.ep,a0.a7,a0.made,a0.j8⟩
 .exact bc (aN @ej eK)
 .exact e1.2 (.inl dk)
 .exact bc (cc aj (ma df) (mb df) (ag (I:p.aP<n)))
 .intro hm
  rcases e1.1 hm with h|h
  .exact eM h
  .omega
 .refine⟨n,rfl,⟨?_,e1.2 (.inr I),I⟩⟩
  .exact bc (ag (I:r<n))
 .intro b ad
  rcases e1.1 ad with h|h
  .have:=bf b h;omega
  .exact h.2
 .intro b ad
  rcases e1.1 ad with h|h
  .exact .inl h
  .exact .inr h.1
 .intro b ad bI
  have c4:(r=b)=False:=eq_false fun e=>bI e.symm
  exact bc (aN c4 (ag (I:b<n)))
end
section
variable{g:G}{n:Nat}{a:aE}{K:cj aE}{p:ff}{e:jw}{fl:List Nat}{r:Nat}{u:c3}{nx:gl}{f:bu}
theorem DU{nV v1 v2 fm:V}(h:dH p a.an a.ar e g fl r u nx f)(ap:bm g n)(bf:∀b∈fl,b<n)(dd:nV.cell=true/\nV.known=true)(c1:v1.cell=true/\v1.known=true)(c2:v2.cell=true/\v2.known=true)(eu:fm.cell=true/\fm.known=true)
 {rb':Option Nat} (qW:∀b,rb'=some b->nV= .int .i64 0/\v1= .slice b 0 1 1 1/\v2= .int .u64 0/\fm= .int .i64 0)
 (ah:∀g' n' cn,n<=n'->dH p a.an a.ar e g' fl r {u with bH:=true,aO:=rb'} .none cn->(cn.hl=nV/\cn.gJ=v1/\cn.fV=v2/\cn.fW=fm)->(∀b,b<n->b≠r->g' b=g b)->K (.bN []) g' n' a):aR ct bA 182 [.ptr r 0,.agg [nV,v1,v2,fm]] g n a K:=by
 obtain⟨a0,ak,dk,aj,df,eM,_⟩:=h
 have cV:=ap _ _ ak
 have da:=ap _ _ aj
 refine bE i182 fun N aF=>?_
 refine aL aus (gq ak @ej (ag (I:r<n)) dd.1 c1.1 c2.1 eu.1) ?_
 apply aF
 refine a6 i182.eq_1 ?_
 intro az
 refine .all (ah _ _ {f with hl:=nV,gJ:=v1,fV:=v2,fW:=fm,effect:=.bool true} I ⟨?_,?_,dk,?_,df,eM,trivial⟩ ⟨rfl,rfl,rfl,rfl⟩ ?_)
 .exact⟨a0.x,a0.hX,a0.g5,a0.h_,a0.val,rfl,a0.done,a0.stays,a0.bk,a0.bo,a0.eo,a0.ep,a0.a7,a0.made,qW⟩
 .exact bc @ej
 .exact bc (cc aj (ma df) (mb df) (ag (I:p.aP<n)))
 .intro b ad bI
  have c4:(r=b)=False:=eq_false fun e=>bI e.symm
  exact bc (aN c4 (ag (I:b<n)))
theorem aC1{k0:Int}(h:dH p a.an a.ar e g fl r u nx f)(ap:bm g n)(bf:∀b∈fl,b<n)(J:u.stays=true->eR p e g n fl r K {u with bH:=true,aO:=none,cJ:=true} .none a)(U:u.stays=false->eR p e g n fl r K {u with bH:=true,aO:=none} .drop a):
 aR ct bA 289 [.ptr r 0,.int .i64 k0] g n a K:=by
 refine bE i289 fun N aF=>?_
 refine dl auH ?_
 refine DU h (ap.mono I) (fun b ad=>by have:=bf b ad;omega) ⟨rfl,rfl⟩ ⟨rfl,rfl⟩ ⟨rfl,rfl⟩ ⟨rfl,rfl⟩ (rb':=none) aM fun g' n' cn az ay _ aw=>?_
 intro dm
 have bg:∀{bj:c3} {hi:gl},eR p e g n fl r K bj hi a->eR p e g' n' fl r K bj hi a:=fun h=>h.trans I (fun b ad=>.inl ad) fun b ad bI=>aw b I bI
 refine aR.mono (Bs (K:=fun _ g n a=>K (.bN []) g n a) ay dm (fun b ad=>by have:=bf b ad;omega) (fun aa=>bg (J aa)) (fun aa=>bg (U aa))) fun v ba aT b7 cB ah aA=>?_
 apply aF
 refine a6 i289.eq_1 ?_
 exact fun _=>.all ah
theorem G9(h:dH p a.an a.ar e g fl r u nx f)(ap:bm g n)(ah:∀n',n<=n'->K (.agg [.int .i64 p.R,.int .i64 2]) g n' a):aR ct bA 243 [.ptr r 0] g n a K:=by
 have aj:=h.aj
 have ak:=h.ak
 have cV:=ap _ _ ak
 have da:=ap _ _ aj
 have jg:=h.a0.x
 simp only[fK]at aj
 refine bE i243 fun N aF=>?_
 refine aL auD (d' ak aj jg @ej (ag (I:r<n)) (ag (I:p.aP<n))) ?_
 apply aF
 refine a6 i243.eq_1 ?_
 intro az
 refine⟨g,fun b c ad=>?_,ah _ az⟩
 have:=ap _ _ ad
 rw[bJ,if_neg I,bJ,if_neg I];exact ad
theorem LD{bd i:Int}{k:w4}(h:dH p a.an a.ar e g fl r u (.ld bd i k) f)(ap:bm g n){w:Int}(hw:a.at_ bd i w)
 (ah:∀ca n',n<=n'->oW g fl r k ca->eG ca [.int .u64 w] g n' a.tick (fun _ g n a=>K (.bN []) g n a)):eG f.next [] g n a K:=by
 obtain⟨a0,ak,dk,aj,df,eM,nK,qg,pz,ca,hv,J6,J7,J8,af⟩:=h
 refine⟨_,_,_,hv,?_⟩
 have cV:=ap _ _ ak
 have da:=ap _ _ aj
 have jl:=ap _ _ J6.1
 have xW:=ap _ _ J7.1
 have Tf:=ap _ _ J8.1
 have gR:=aj
 have jg:=a0.x
 simp only[fK]at gR
 obtain⟨v1,v2,fm,v4⟩:=af.val
 refine bE i304 fun N aF=>?_
 refine aL OW (bs ak gR jg @ej (eC J6) (ag (I:nK<n)) (eC J7) (ag (I:qg<n)) (eC J8) (ag (I:pz<n)) (ag (I:r<n)) (ag (I:p.aP<n))) ?_
 refine rT hw fun n' az=>?_
 intro dm
 obtain⟨id,first,cap,nJ,gW⟩:=ah ca n' I af
 subst nJ
 refine aL (aN adW.eq_1 OW) (bs ak gR jg @ej (eC J6) (ag (I:nK<n)) (eC J7) (ag (I:qg<n)) (eC J8) (ag (I:pz<n)) (ag (I:r<n)) (ag (I:p.aP<n))) ?_
 refine aR.mono gW fun v2 ba aT b7 cB eJ dC=>?_
 apply aF
 refine a6 i304.eq_1 ?_
 exact fun _=>.all eJ
theorem aHV{bd i w:Int}{k:li}(h:dH p a.an a.ar e g fl r u (.bX bd i w k) f)(ap:bm g n)(ga:dZ w){w0:Int}(hw:a.at_ bd i w0)
 (ah:∀ca n',n<=n'->iv g fl r k ca->eG ca [] g n' (a.put bd i w) (fun _ g n a=>K (.bN []) g n a)):eG f.next [] g n a K:=by
 obtain⟨a0,ak,dk,aj,df,eM,sO,wK,wL,wM,ca,hv,J9,J',J_,Ka,af⟩:=h
 refine⟨_,_,_,hv,?_⟩
 have cV:=ap _ _ ak
 have da:=ap _ _ aj
 have xW:=ap _ _ J9.1
 have Tf:=ap _ _ J'.1
 have He:=ap _ _ J_.1
 have Tg:=ap _ _ Ka.1
 have gR:=aj
 have jg:=a0.x
 simp only[fK]at gR
 obtain⟨v1,v2,fm,v4⟩:=af.val
 refine bE i331 fun N aF=>?_
 refine aL O1 (bs ak gR jg @ej (eC J9) (ag (I:sO<n)) (eC J') (ag (I:wK<n)) (eC J_) (ag (I:wL<n)) (eC Ka) (cw (ag (I:wM<n)) (ag (I:r<n)) (ag (I:p.aP<n)))) ?_
 refine ye hw ga fun n' az=>?_
 intro dm
 obtain⟨id,first,cap,nJ,gW⟩:=ah ca n' I af
 subst nJ
 rw[List.append_nil]at gW
 refine aL O1 (bs ak gR jg @ej (eC J9) (ag (I:sO<n)) (eC J') (ag (I:wK<n)) (eC J_) (ag (I:wL<n)) (eC Ka) (cw (ag (I:wM<n)) (ag (I:r<n)) (ag (I:p.aP<n)))) ?_
 refine aR.mono gW fun v2 ba aT b7 cB eJ dC=>?_
 apply aF
 refine a6 i331.eq_1 ?_
 exact fun _=>.all eJ
theorem aw5(h:dH p a.an a.ar e g fl r u .drop f)(ap:bm g n)(bf:∀b∈fl,b<n){w:Int}(hw:a.at_ p.R 1 w)
 (bg:eR p e g n fl r K {u with cJ:=true} .none (a.put p.R 1 (fy w 18446744073709551615 1))):eG f.next [] g n a K:=by
 obtain⟨a0,ak,dk,aj,df,eM,b0,hv,dY⟩:=h
 refine⟨_,_,_,hv,?_⟩
 have cV:=ap _ _ ak
 have da:=ap _ _ aj
 have l3:=ap _ _ dY.1
 have gR:=aj
 have jg:=a0.x
 simp only[fK]at gR
 refine bE i251 fun N aF=>?_
 refine aL OO (e_ ak gR jg @ej (eC dY) (ag (I:b0<n)) (ag (I:r<n)) (ag (I:p.aP<n))) ?_
 refine Jx (i:=0) I hw fun n' az=>?_
 intro dm
 refine aL OO (e_ ak gR jg @ej (eC dY) (ag (I:b0<n)) (ag (I:r<n)) (ag (I:p.aP<n))) ?_
 apply aF
 refine a6 i251.eq_1 ?_
 intro _
 refine .all (bg _ _ fl {f with done:=.bool true} I ⟨⟨a0.x,a0.hX,a0.g5,a0.h_,a0.val,a0.bH,rfl,a0.stays,a0.bk,a0.bo,a0.eo,a0.ep,a0.a7,a0.made,a0.j8⟩,?_,dk,?_,df,eM,trivial⟩ (fun b ad=>by have:=bf b ad;omega) (fun b ad=>.inl ad) ?_)
 .exact bc (aN @ej jg)
 .exact bc (gq aj gR fK.eq_1 aE.put.eq_1 (ma df) (mb df) (ag (I:p.aP<n)))
 .intro b ad bI
  have c4:(r=b)=False:=eq_false fun e=>bI e.symm
  exact bc (aN c4 (ag (I:b<n)))
theorem aDA{dA:Int}(h:dH p a.an a.ar e g fl r u (.more dA) f)(ap:bm g n)(bf:∀b∈fl,b<n){w:Int}(hw:a.at_ p.R 3 w)
 (J:u.stays=true->eR p e g n fl r K {u with cJ:=true} .none (a.put p.R 3 (fy w 18446744073709551615 dA))) (U:u.stays=false->eR p e g n fl r K u .drop (a.put p.R 3 (fy w 18446744073709551615 dA))):eG f.next [] g n a K:=by
 have a5:=h
 obtain⟨a0,ak,dk,aj,df,eM,b0,dd,hv,dY,hA⟩:=h
 refine⟨_,_,_,hv,?_⟩
 have cV:=ap _ _ ak
 have da:=ap _ _ aj
 have l3:=ap _ _ dY.1
 have iA:=ap _ _ hA.1
 have gR:=aj
 have jg:=a0.x
 simp only[fK]at gR
 refine bE i335 fun N aF=>?_
 refine aL O3 (ji ak gR jg @ej (eC dY) (ag (I:b0<n)) (eC hA) (ag (I:dd<n)) (ag (I:r<n)) (ag (I:p.aP<n))) ?_
 refine yQ hw fun n' az=>?_
 intro dm
 refine aL O3 (ji ak gR jg @ej (eC dY) (ag (I:b0<n)) (eC hA) (ag (I:dd<n)) (ag (I:r<n)) (ag (I:p.aP<n))) ?_
 have bg:∀{bj:c3} {hi:gl} {a':aE},eR p e g n fl r K bj hi a'->eR p e g n' fl r K bj hi a':=fun h=>h.trans I (fun b ad=>.inl ad) fun b ad bI=>rfl
 have Db:dH p (a.put p.R 3 (fy w 18446744073709551615 dA)).an (a.put p.R 3 (fy w 18446744073709551615 dA)).ar e g fl r u .none f:=a5.any
 refine aR.mono (Bs (K:=fun _ g n a=>K (.bN []) g n a) Db dm (fun b ad=>by have:=bf b ad;omega) (fun aa=>bg (J aa)) (fun aa=>bg (U aa))) fun v ba aT b7 cB ah aA=>?_
 apply aF
 refine a6 i335.eq_1 ?_
 exact fun _=>.all ah
end
section
variable{g:G}{n:Nat}{a:aE}{K:cj aE}{p:ff}{e:jw}{fl:List Nat}{r:Nat}{u:c3}{nx:gl}{f:bu}
theorem pX{n n':Nat}(bf:∀b∈fl,b<n)(az:n<=n'):∀b∈ext fl n n',b<n':=fun b ad=>by
 rcases e1.1 ad with h|h
 .have:=bf b h;omega
 .exact h.2
theorem dH.grow{g':G}{n':Nat}(h:dH p a.an a.ar e g fl r u nx f)(ap:bm g n)(aw:∀b,b<n->g' b=g b):dH p a.an a.ar e g' (ext fl n n') r u .none f:=by
 obtain⟨a0,ak,dk,aj,df,eM,_⟩:=h
 refine⟨a0,by rw[aw r (ap _ _ ak)];exact ak,e1.2 (.inl dk),by rw[aw _ (ap _ _ aj)];exact aj,df,fun hm=>?_,trivial⟩
 rcases e1.1 hm with h|h
 .exact eM h
 .have:=ap _ _ aj;omega
theorem eR.grow{g':G}{n':Nat}(h:eR p e g n fl r K u nx a)(az:n<=n')(aw:∀b,b<n->g' b=g b):eR p e g' n' (ext fl n n') r K u nx a:=
 h.trans az (fun b ad=>by rcases e1.1 ad with h|h;exact .inl h;exact .inr h.1) fun b ad _=>aw b ad
theorem iv.grow{g':G}{n':Nat}{k:li}{v:V}(h:iv g fl r k v)(bf:∀b∈fl,b<n)(aw:∀b,b<n->g' b=g b):iv g' (ext fl n n') r k v:=
 h.mono (fun x aj=>e1.2 (.inl aj)) fun x aj _=>aw x (bf x aj)
theorem oW.grow{g':G}{n':Nat}{k:w4}{v:V}(h:oW g fl r k v)(bf:∀b∈fl,b<n)(aw:∀b,b<n->g' b=g b):oW g' (ext fl n n') r k v:=
 h.mono (fun x aj=>e1.2 (.inl aj)) fun x aj _=>aw x (bf x aj)
theorem qx.grow{g':G}{n':Nat}{hD iQ iR iD:Nat}(h:qx g fl r e hD iQ iR iD)(bf:∀b∈fl,b<n)(aw:∀b,b<n->g' b=g b):qx g' (ext fl n n') r e hD iQ iR iD:=
 h.mono (fun x aj=>e1.2 (.inl aj)) fun x aj _=>aw x (bf x aj)
theorem dI.grow{g':G}{n' b:Nat}{l:List V}(h:dI g fl r b l)(bf:∀b∈fl,b<n)(aw:∀b,b<n->g' b=g b):dI g' (ext fl n n') r b l:=
 h.mono (fun x aj=>e1.2 (.inl aj)) fun x aj _=>aw x (bf x aj)
theorem dI.new{g':G}{n' b:Nat}{l:List V}(ad:g' b=some (.al false l))(J:n<=b)(U:b<n')(ak:r<n):dI g' (ext fl n n') r b l:=⟨ad,e1.2 (.inr ⟨J,U⟩),I⟩
theorem S9{k:li}{ca:V}(h:dH p a.an a.ar e g fl r u nx f)(ap:bm g n)(bf:∀b∈fl,b<n)(af:iv g fl r k ca)(bg:eR p e g n fl r K u (.ld u.a7 2 (.rc k)) a):aR ct bA 295 [.ptr r 0,ca] g n a K:=by
 have a5:=h
 obtain⟨a0,ak,dk,aj,df,eM,_⟩:=h
 have cV:=ap _ _ ak
 have da:=ap _ _ aj
 obtain⟨v1,v2,fm,v4⟩:=af.val
 refine bE i295 fun N aF=>?_
 refine aL auK (kw ak a0.a7 v1 v2 fm v4 @ej (ag (I:r<n)) (ag (I:r<n+2)) (ag (I:n<n+2)) (ag (I:n+1<n+2))) ?_
 have aw:∀b,b<n->(a1 (a1 g n (bt.al false [V.ptr r 0])) (n+1) (bt.al false [ca])) b=g b:=fun b ad=>bc (ag (I:b<n))
 refine dO fun cf=>aR.mono (Bv (K:=fun _ g n a=>K (.bN []) g n a) (k:=.rc k) (a5.grow ap aw) cf (pX bf I) ⟨n,n+1,ca,rfl,dI.new (bc (ag (I:r<n))) I I cV,dI.new (bc (ag (I:r<n))) I I cV,af.grow bf aw⟩ (bg.grow I aw)) fun v ba aT b7 cB ah aA=>?_
 apply aF
 refine a6 i295.eq_1 ?_
 exact fun _=>.all ah
theorem Td{k:li}{ca:V}{bd:Int}(h:dH p a.an a.ar e g fl r u nx f)(ap:bm g n)(bf:∀b∈fl,b<n)(af:iv g fl r k ca)(bg:eR p e g n fl r K u (.ld p.R 2 (.r7 bd k)) a):aR ct bA 333 [.ptr r 0,.int .i64 bd,ca] g n a K:=by
 have a5:=h
 obtain⟨a0,ak,dk,aj,df,eM,_⟩:=h
 have cV:=ap _ _ ak
 have da:=ap _ _ aj
 obtain⟨v1,v2,fm,v4⟩:=af.val
 refine bE i333 fun N aF=>?_
 refine aL O2 (kw ak v1 v2 fm v4 @ej (ag (I:r<n)) (ag (I:r<n+3)) (ag (I:n<n+3)) (ag (I:n+1<n+3)) (ag (I:n+2<n+3))) ?_
 have aw:∀b,b<n->(a1 (a1 (a1 g n (bt.al false [V.ptr r 0])) (n+1) (bt.al false [V.int IntKind.i64 bd])) (n+2) (bt.al false [ca])) b=g b:=fun b ad=>bc (ag (I:b<n))
 refine dO fun cf=>G9 (a5.grow (n':=n+8) ap aw) cf fun n' az=>?_
 intro dE
 refine aL (aN ad0.eq_1 O2) (kw ak v1 v2 fm v4 @ej (ag (I:r<n)) (ag (I:r<n+3)) (ag (I:n<n+3)) (ag (I:n+1<n+3)) (ag (I:n+2<n+3))) ?_
 refine dO fun cf=>aR.mono (Bv (K:=fun _ g n a=>K (.bN []) g n a) (k:=.r7 bd k) (a5.grow ap aw) cf (pX bf I) ⟨n,n+1,n+2,ca,rfl,dI.new (bc (ag (I:r<n))) I I cV,dI.new (bc (ag (I:r<n))) I I cV,dI.new (bc (ag (I:r<n))) I I cV,af.grow bf aw⟩ (bg.grow I aw)) fun v ba aT b7 cB ah aA=>?_
 apply aF
 refine a6 i333.eq_1 ?_
 exact fun _=>.all ah
theorem S1{k:li}{ca:V}(h:dH p a.an a.ar e g fl r u nx f)(ap:bm g n)(bf:∀b∈fl,b<n)(af:iv g fl r k ca)(bg:eR p e g n fl r K u (.bX u.made 0 u.key (.rR k)) a):aR ct bA 300 [.ptr r 0,ca] g n a K:=by
 have a5:=h
 obtain⟨a0,ak,dk,aj,df,eM,_⟩:=h
 have cV:=ap _ _ ak
 have da:=ap _ _ aj
 obtain⟨v1,v2,fm,v4⟩:=af.val
 refine bE i300 fun N aF=>?_
 refine aL auN (bs ak a0.made a0.g5 v1 v2 fm v4 @ej (ag (I:r<n)) (ag (I:r<n+2)) (ag (I:n<n+2)) (ag (I:n+1<n+2))) ?_
 have aw:∀b,b<n->(a1 (a1 g n (bt.al false [V.ptr r 0])) (n+1) (bt.al false [ca])) b=g b:=fun b ad=>bc (ag (I:b<n))
 refine dO fun cf=>aR.mono (zI (K:=fun _ g n a=>K (.bN []) g n a) (k:=.rR k) (a5.grow ap aw) cf (pX bf I) ⟨n,n+1,ca,rfl,dI.new (bc (ag (I:r<n))) I I cV,dI.new (bc (ag (I:r<n))) I I cV,af.grow bf aw⟩ (bg.grow I aw)) fun v ba aT b7 cB ah aA=>?_
 apply aF
 refine a6 i300.eq_1 ?_
 exact fun _=>.all ah
end
section
variable{g:G}{n:Nat}{a:aE}{K:cj aE}{p:ff}{e:jw}{fl:List Nat}{r:Nat}{u:c3}{nx:gl}{f:bu}
theorem aDg(h:dH p a.an a.ar e g fl r u nx f)(ap:bm g n)(bf:∀b∈fl,b<n)(J:u.bk=p.R/\u.bo=2->u.stays=true->eR p e g n fl r K {u with cJ:=true} .none a)(U:u.bk=p.R/\u.bo=2->u.stays=false->eR p e g n fl r K u .drop a)(aq:¬(u.bk=p.R/\u.bo=2)->eR p e g n fl r K u (.ld u.a7 2 (.rc .sS)) a):aR ct bA 292 [.ptr r 0] g n a K:=by
 have a5:=h
 obtain⟨a0,ak,dk,aj,df,eM,_⟩:=h
 have cV:=ap _ _ ak
 have da:=ap _ _ aj
 have kH:List.take 2 (List.drop 15 f.l)=[.int .i64 u.bk,.int .i64 u.bo]:=by
  have:List.take 2 (List.drop 15 f.l)=[f.bk,f.bo]:=rfl
  rw[this,a0.bk,a0.bo]
 have nd:V.same 40 (.agg [.int .i64 u.bk,.int .i64 u.bo]) (.agg [.int .i64 u.bk,.int .i64 u.bo])=true:=nP rfl
 refine bE i292 fun N aF=>?_
 refine aL IN (d' ak kH @ej (ag (I:r<n)) (ag (I:r<n+1)) (ag (I:n<n+1))) ?_
 have aw:∀b,b<n->(a1 g n (bt.al false [V.ptr r 0])) b=g b:=fun b ad=>bc (ag (I:b<n))
 refine dO fun cf=>G9 (a5.grow (n':=n+10) ap aw) cf fun n' az=>?_
 intro dE
 by_cases af:u.bk=p.R/\u.bo=2
 .have y':tt 2 [V.int .i64 u.bk,V.int .i64 u.bo] [V.int .i64 p.R,V.int .i64 2]=some true:=by rw[af.1,af.2];simp[tt]
  refine aL (aN MJ.eq_1 IN) (e_ ak kH nd y' @ej (ag (I:r<n)) (ag (I:r<n+1)) (ag (I:n<n+1))) ?_
  refine dO fun cf=>aR.mono (Bs (K:=fun _ g n a=>K (.bN []) g n a) (a5.grow ap aw) cf (pX bf I) (fun aa=>(J af aa).grow I aw) (fun aa=>(U af aa).grow I aw)) fun v ba aT b7 cB ah aA=>?_
  apply aF
  refine a6 i292.eq_1 ?_
  exact fun _=>.all ah
 .have y':tt 2 [V.int .i64 u.bk,V.int .i64 u.bo] [V.int .i64 p.R,V.int .i64 2]=some false:=by
   simp only[tt,if_true]
   by_cases J:u.bk=p.R
   .have U:¬u.bo=2:=fun h=>af ⟨J,h⟩
    simp[J,U]
   .simp[J]
  refine aL (aN MJ.eq_1 IN) (e_ ak kH nd y' @ej (ag (I:r<n)) (ag (I:r<n+1)) (ag (I:n<n+1))) ?_
  refine dO fun cf=>aR.mono (S9 (K:=fun _ g n a=>K (.bN []) g n a) (k:=.sS) (a5.grow ap aw) cf (pX bf I) ⟨n,rfl,dI.new (bc (ag (I:r<n))) I I cV⟩ ((aq af).grow I aw)) fun v ba aT b7 cB ah aA=>?_
  apply aF
  refine a6 i292.eq_1 ?_
  exact fun _=>.all ah
theorem aCg(h:dH p a.an a.ar e g fl r u nx f)(ap:bm g n)(bf:∀b∈fl,b<n){ca:V}(af:iv g fl r .set ca)(J:u.bk=p.R/\u.bo=2->u.stays=true->eR p e g n fl r K {u with bH:=true,aO:=none,cJ:=true} .none a)(U:u.bk=p.R/\u.bo=2->u.stays=false->eR p e g n fl r K {u with bH:=true,aO:=none} .drop a)(aq:¬(u.bk=p.R/\u.bo=2)->eR p e g n fl r K {u with bH:=true,aO:=none} (.ld u.a7 2 (.rc .sS)) a):eG ca [] g n a K:=by
 have a5:=h
 obtain⟨a0,ak,dk,aj,df,eM,_⟩:=h
 have cV:=ap _ _ ak
 have da:=ap _ _ aj
 obtain⟨b0,hv,dY⟩:=af
 subst hv
 refine⟨_,_,_,rfl,?_⟩
 have l3:=ap _ _ dY.1
 refine bE i291 fun N aF=>?_
 refine aL OS (cc ak @ej (eC dY) (ag (I:b0<n))) ?_
 refine dO fun cf=>DU a5 cf bf ⟨rfl,rfl⟩ ⟨rfl,rfl⟩ ⟨rfl,rfl⟩ ⟨rfl,rfl⟩ (rb':=none) aM fun bY bq f1 g4 tb _ c5=>?_
 intro dE
 have eE:bY b0=some (.al false [.ptr r 0]):=by rw[c5 b0 l3 dY.2.2];exact dY.1
 refine aL OS eE ?_
 have sy:∀{bj:c3} {hi:gl} {a':aE} {g':G} {n':Nat},n<=n'->(∀b,b<n->b≠r->g' b=g b)->eR p e g n fl r K bj hi a'->eR p e g' n' fl r K bj hi a':=fun az aw h=>h.trans az (fun b ad=>.inl ad) fun b ad bI=>aw b ad bI
 refine dO fun cf=>aR.mono (aDg (K:=fun _ g n a=>K (.bN []) g n a) tb cf (fun b ad=>by have:=bf b ad;omega) (fun af aa=>sy g4 c5 (J af aa)) (fun af aa=>sy g4 c5 (U af aa)) (fun af=>sy g4 c5 (aq af))) fun v ba aT b7 cB ah aA=>?_
 apply aF
 refine a6 i291.eq_1 ?_
 exact fun _=>.all ah
theorem aCi(h:dH p a.an a.ar e g fl r u nx f)(ap:bm g n)(bf:∀b∈fl,b<n){ca:V}(af:iv g fl r .sS ca)(bg:eR p e g n fl r K u (.ld p.R 2 (.r7 u.a7 .s7)) a):eG ca [] g n a K:=by
 have a5:=h
 obtain⟨a0,ak,dk,aj,df,eM,_⟩:=h
 have cV:=ap _ _ ak
 have da:=ap _ _ aj
 obtain⟨b0,hv,dY⟩:=af
 subst hv
 refine⟨_,_,_,rfl,?_⟩
 have l3:=ap _ _ dY.1
 refine bE i332 fun N aF=>?_
 refine aL auS (d' ak a0.a7 @ej (eC dY) (ag (I:b0<n)) (ag (I:r<n))) ?_
 refine dO fun cf=>aR.mono (Td (K:=fun _ g n a=>K (.bN []) g n a) (k:=.s7) (nx:=.none) (f:=f) (u:=u) (fl:=fl) a5.any cf (fun b ad=>by have:=bf b ad;omega) rfl (bg.trans I (fun b ad=>.inl ad) fun b ad bI=>rfl)) fun v ba aT b7 cB ah aA=>?_
 apply aF
 refine a6 i332.eq_1 ?_
 exact fun _=>.all ah
theorem aCf(h:dH p a.an a.ar e g fl r u nx f)(ap:bm g n)(bf:∀b∈fl,b<n){ca:V}(af:iv g fl r .uT ca)(bg:eR p e g n fl r K u (.more 1) a):eG ca [] g n a K:=by
 have a5:=h
 obtain⟨a0,ak,dk,aj,df,eM,_⟩:=h
 have cV:=ap _ _ ak
 have da:=ap _ _ aj
 obtain⟨b0,hv,dY⟩:=af
 subst hv
 refine⟨_,_,_,rfl,?_⟩
 have l3:=ap _ _ dY.1
 refine bE i301 fun N aF=>?_
 refine aL auO (cc ak @ej (eC dY) (ag (I:b0<n))) ?_
 refine dO fun cf=>aR.mono (S3 (K:=fun _ g n a=>K (.bN []) g n a) a5 cf bf bg) fun v ba aT b7 cB ah aA=>?_
 apply aF
 refine a6 i301.eq_1 ?_
 exact fun _=>.all ah
theorem aCb{last:Int}(h:dH p a.an a.ar e g fl r u nx f)(ap:bm g n)(bf:∀b∈fl,b<n){ca:V}(af:iv g fl r (.cut last) ca)(bg:eR p e g n fl r K u (.bX u.made 0 u.key (.rR (.oz last))) a):eG ca [] g n a K:=by
 have a5:=h
 obtain⟨a0,ak,dk,aj,df,eM,_⟩:=h
 have cV:=ap _ _ ak
 have da:=ap _ _ aj
 obtain⟨b0,dd,hv,dY,hA⟩:=af
 subst hv
 refine⟨_,_,_,rfl,?_⟩
 have l3:=ap _ _ dY.1
 have iA:=ap _ _ hA.1
 refine bE i302 fun N aF=>?_
 refine aL auP (d' ak @ej (eC dY) (ag (I:b0<n)) (eC hA) (ag (I:dd<n))) ?_
 refine dO fun cf=>aR.mono (S1 (K:=fun _ g n a=>K (.bN []) g n a) (k:=.oz last) a5 cf bf ⟨b0,dd,rfl,dY,hA⟩ bg) fun v ba aT b7 cB ah aA=>?_
 apply aF
 refine a6 i302.eq_1 ?_
 exact fun _=>.all ah
theorem aCd{k:li}(h:dH p a.an a.ar e g fl r u nx f)(ap:bm g n)(bf:∀b∈fl,b<n){ca:V}(af:iv g fl r (.rR k) ca)(bg:eR p e g n fl r K u (.bX u.made 1 u.val (.vb k)) a):eG ca [] g n a K:=by
 have a5:=h
 obtain⟨a0,ak,dk,aj,df,eM,_⟩:=h
 have cV:=ap _ _ ak
 have da:=ap _ _ aj
 obtain⟨b0,dd,tT,hv,dY,hA,af⟩:=af
 subst hv
 refine⟨_,_,_,rfl,?_⟩
 have l3:=ap _ _ dY.1
 have iA:=ap _ _ hA.1
 refine bE i336 fun N aF=>?_
 refine aL auU (jO ak a0.made a0.val @ej (eC dY) (ag (I:b0<n)) (eC hA) (ag (I:dd<n)) (ag (I:r<n))) ?_
 refine dO fun cf=>aR.mono (zI (K:=fun _ g n a=>K (.bN []) g n a) (k:=.vb k) (nx:=.none) (f:=f) (u:=u) (fl:=fl) a5.any cf (fun b ad=>by have:=bf b ad;omega) ⟨b0,dd,tT,rfl,dY,hA,af⟩ (bg.trans I (fun b ad=>.inl ad) fun b ad bI=>rfl)) fun v ba aT b7 cB ah aA=>?_
 apply aF
 refine a6 i336.eq_1 ?_
 exact fun _=>.all ah
theorem aCj{k:li}(h:dH p a.an a.ar e g fl r u nx f)(ap:bm g n)(bf:∀b∈fl,b<n){ca:V}(af:iv g fl r (.vb k) ca)(bg:eR p e g n fl r K u (.ld p.R 2 (.r7 u.made (.sD k))) a):eG ca [] g n a K:=by
 have a5:=h
 obtain⟨a0,ak,dk,aj,df,eM,_⟩:=h
 have cV:=ap _ _ ak
 have da:=ap _ _ aj
 obtain⟨b0,dd,tT,hv,dY,hA,af⟩:=af
 subst hv
 refine⟨_,_,_,rfl,?_⟩
 have l3:=ap _ _ dY.1
 have iA:=ap _ _ hA.1
 refine bE i337 fun N aF=>?_
 refine aL auV (jO ak a0.made a0.val @ej (eC dY) (ag (I:b0<n)) (eC hA) (ag (I:dd<n)) (ag (I:r<n))) ?_
 refine dO fun cf=>aR.mono (Td (K:=fun _ g n a=>K (.bN []) g n a) (k:=.sD k) (nx:=.none) (f:=f) (u:=u) (fl:=fl) a5.any cf (fun b ad=>by have:=bf b ad;omega) ⟨b0,dd,tT,rfl,dY,hA,af⟩ (bg.trans I (fun b ad=>.inl ad) fun b ad bI=>rfl)) fun v ba aT b7 cB ah aA=>?_
 apply aF
 refine a6 i337.eq_1 ?_
 exact fun _=>.all ah
end
