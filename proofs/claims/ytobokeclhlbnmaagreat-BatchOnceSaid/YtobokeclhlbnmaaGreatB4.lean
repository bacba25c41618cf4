/- Part of the proof of BatchOnce, for every input. -/
import Derived.Test.YtobokeclhlbnmaaGreatB3
set_option linter.all false
namespace Go.Proofs.Run
open Go Go.Abs
def cK:=bs @bF.len @bF.CR @bF.EA @bF.CS @bF.EB @bF.C3 @bF.EM @bF.C5 @bF.EO @bF.C6 @bF.EP (bs @bF.C7 @bF.EQ @bF.C8 @bF.ER @bF.C9 @bF.ES @bF.C' @bF.ET @bF.C_ @bF.EU @bF.CT (bs @bF.EC @bF.CU @bF.ED @bF.CV @bF.EE @bF.CW @bF.EF @bF.CX @bF.EG @bF.CY @bF.EH (ji @bF.CZ @bF.EI @bF.C0 @bF.EJ @bF.C1 @bF.EK @bF.C2 @bF.EL @bF.C4 @bF.EN)))
def ej:=bs @bu.len @bu.CR @bu.EA @bu.CS @bu.EB @bu.C3 @bu.EM @bu.C5 @bu.EO @bu.C6 @bu.EP (bs @bu.C7 @bu.EQ @bu.C8 @bu.ER @bu.C9 @bu.ES @bu.C' @bu.ET @bu.C_ @bu.EU @bu.CT (bs @bu.EC @bu.CU @bu.ED @bu.CV @bu.EE @bu.CW @bu.EF @bu.CX @bu.EG @bu.CY @bu.EH (bs @bu.CZ @bu.EI @bu.C0 @bu.EJ @bu.C1 @bu.EK @bu.C2 @bu.EL @bu.C4 @bu.EN @bu.JT (cw @bu.Nf @bu.JU @bu.Ng))))
def h2:=bs @a2.len @a2.CR @a2.EA @a2.CS @a2.EB @a2.C3 @a2.EM @a2.C5 @a2.EO @a2.C6 @a2.EP (bs @a2.C7 @a2.EQ @a2.C8 @a2.ER @a2.C9 @a2.ES @a2.C' @a2.ET @a2.C_ @a2.EU @a2.CT (bs @a2.EC @a2.CU @a2.ED @a2.CV @a2.EE @a2.CW @a2.EF @a2.CX @a2.EG @a2.CY @a2.EH (bs @a2.CZ @a2.EI @a2.C0 @a2.EJ @a2.C1 @a2.EK @a2.C2 @a2.EL @a2.C4 @a2.EN @a2.JT (bs @a2.Nf @a2.JU @a2.Ng @a2.ax4 @a2.aGU @a2.ax5 @a2.aGV @a2.ax6 @a2.aGW @a2.ax7 @a2.aGX (bs @a2.ax8 @a2.aGY @a2.ax9 @a2.aGZ @a2.ax' @a2.aG0 @a2.ax_ @a2.aG1 @a2.aya @a2.aG2 @a2.ayb (bs @a2.aG3 @a2.ayc @a2.aG4 @a2.ayd @a2.aG5 @a2.aye @a2.aG6 @a2.ayf @a2.aG7 @a2.ayg @a2.aG8 (aN @a2.ayh @a2.aG9)))))))
end Go.Proofs.Run
namespace Go.Proofs.Run
open Go Go.Abs
attribute [local irreducible] b9 cI cr cg aR
set_option maxRecDepth 100000
set_option maxHeartbeats 4000000
section
structure ew where
 aP:Nat
 E:Int
 B:Int
 R:Int
def gn(p:ew)(an ar:Nat):bt:=.al false [.ptr an 0,.ptr ar 0,.int .i64 4,.int .i64 p.E,.int .i64 1,.int .i64 p.B,.int .i64 0,.int .i64 p.R]
inductive Fo where
 |draw
 |wait (bK:Int)
 |go
 |load
 |ask
 |set
 |leave
 |space
 |make
 |fill (j:Nat)
 |jY
 |add
 |link
 |done
structure gD where
 key:Int
 val:Int
 room:Int
 bk:Int
 bo:Int
 a7:Int
 made:Int
 rk:Int
 fu:Int
 bH:Bool
 aY:Fo
def Fo.hL:Fo->Bool
 | .done=>true
 |_=>false
structure Ix(p:ew)(u:gD)(f:bF):Prop where
 x:f.x= .ptr p.aP 0
 hX:f.hX= .int .i64 2
 g5:f.g5= .int .u64 u.key
 hY:f.hY= .br
 h_:f.h_= .int .i64 0
 i_:f.i_= .int .i64 0
 val:f.val= .int .u64 u.val
 bH:f.effect= .bool u.bH
 done:f.done= .bool u.aY.hL
 room:f.room= .int .i64 u.room
 bk:f.bk= .int .i64 u.bk
 bo:f.bo= .int .i64 u.bo
 a7:f.a7= .int .i64 u.a7
 made:f.made= .int .i64 u.made
 key:f.key= .int .u64 u.rk
 fu:f.fu= .int .u64 u.fu
set_option linter.defProp false in
def jV{p:ew}{u:gD}{f:bF}{q:Prop}(aZ:Ix p u f)(aH:q):=And.intro aZ.x<|And.intro aZ.hX<|And.intro aZ.g5<|And.intro aZ.hY<|And.intro aZ.h_<|And.intro aZ.i_<|And.intro aZ.val<|And.intro aZ.bH<|And.intro aZ.room<|And.intro aZ.bk<|And.intro aZ.bo<|And.intro aZ.a7<|And.intro aZ.made<|And.intro aZ.key<|And.intro aZ.fu<|aH
def wR(b0 b1:Nat):V:=.fn (.func 159) [] [.ptr b0 0,.ptr b1 0]
def Aa(b0 b1:Nat):V:=.fn (.func 161) [] [.ptr b0 0,.ptr b1 0]
def va(d0 d3 d5:Nat):V:=.fn (.func 223) [] [.ptr d0 0,.ptr d5 0,.ptr d3 0]
def yh(d0 d1 d2 d3 d4:Nat):V:=.fn (.func 222) [] [.ptr d0 0,.ptr d1 0,.ptr d2 0,.ptr d3 0,.ptr d4 0]
def bW(room:Int):Int:=3*room+2
def uZ(u:gD)(x:V):bt:=.al false [.int .i64 2,.int .u64 u.key,x,.int .i64 0,.int .i64 0]
def r2(u:gD)(r:Nat)(x:V)(d0 d1 d2 d3 d4 d5 b0 b1:Nat):List (Nat×bt):=
 [(d0,.al false [.ptr r 0]),(d1,.al false [.int .u64 u.key]),(d2,.al false [.bool false]),(d3,.al false [Aa b0 b1]),(d4,.al false [va d0 d3 d5]),(d5,.al false [yh d0 d1 d2 d3 d4]),(b0,.al false [.ptr r 0]),(b1,uZ u x)]
def Fj:=cc (bs @gn.eq_1 @uZ.eq_1 @r2.eq_1 @wR.eq_1 @Aa.eq_1 @va.eq_1 @yh.eq_1 @words.eq_1 @aE.tick.eq_1 @aE.put.eq_1 @aE.make.eq_1 @aE.free.eq_1) (oH @List.forall_mem_cons.{0} @List.not_mem_nil.{0}) (oH @false_implies @implies_true.{1}) cK
def N8:=eW @List.nodup_cons.{0} @List.mem_cons.{0} @List.not_mem_nil.{0} @List.nodup_nil.{0} @r2.eq_1
def pp(p:ew)(an r:Nat)(u:gD)(v:V)(L:List (Nat×bt)):Prop:=
 match u.aY with
 | .draw=>∃dd c1 c2 t b0 b1 x,v= .fn (.func 221) [] [.ptr dd 0,.ptr c1 0,.ptr c2 0]/\L=[(dd,.al false [.ptr t 0]),(c1,.al false [wR b0 b1]),(c2,.al false [.ptr r 0]),(t,lc an p.R (bW u.room) 0 (.fn (.func 211) [.ptr t 0] [])),(b0,.al false [.ptr r 0]),(b1,uZ u x)]
 | .wait bK=>∃dd c1 c2 t b0 b1 x,v= .fn (.func 221) [] [.ptr dd 0,.ptr c1 0,.ptr c2 0]/\L=[(dd,.al false [.ptr t 0]),(c1,.al false [wR b0 b1]),(c2,.al false [.ptr r 0]),(t,lc an p.R (bW u.room) bK (.fn (.func 265) [.ptr t 0] [])),(b0,.al false [.ptr r 0]),(b1,uZ u x)]
 | .go=>∃b0 b1 x,v=wR b0 b1/\L=[(b0,.al false [.ptr r 0]),(b1,uZ u x)]
 | .load=>∃d0 d1 d2 d3 d4 d5 b0 b1 x,v=va d0 d3 d5/\L=r2 u r x d0 d1 d2 d3 d4 d5 b0 b1
 | .ask=>∃d0 d1 d2 d3 d4 d5 b0 b1 x,v=yh d0 d1 d2 d3 d4/\L=r2 u r x d0 d1 d2 d3 d4 d5 b0 b1
 | .set=>v= .fn (.func 225) [.ptr r 0] []/\L=[]
 | .leave=>v= .fn (.func 173) [.ptr r 0] []/\L=[]
 | .space=>v= .fn (.func 226) [.ptr r 0] []/\L=[]
 | .make=>v= .fn (.func 282) [.ptr r 0] []/\L=[]
 | .fill j=>∃w0 iA U ws,v= .fn (.func 324) [] [.ptr w0 0,.ptr iA 0,.ptr U 0]/\L=[(w0,.al false [.slice ws 0 j 3 1]),(iA,.al false [.ptr r 0]),(U,.al false [.int .i64 u.made]),(ws,.al false (words [IntKind.wrap .u64 u.a7,u.key,u.val]))]
 | .jY=>∃sJ j6,v= .fn (.func 285) [] [.ptr sJ 0,.ptr j6 0]/\L=[(sJ,.al false [.ptr r 0]),(j6,.al false [.fn (.func 283) [.ptr r 0] []])]
 | .add=>v= .fn (.func 283) [.ptr r 0] []/\L=[]
 | .link=>∃cZ,v= .fn (.func 326) [] [.ptr cZ 0]/\L=[(cZ,.al false [.ptr r 0])]
 | .done=>L=[]
structure kW(p:ew)(an ar:Nat)(g:G)(fl:List Nat)(r:Nat)(u:gD)(f:bF)(L:List (Nat×bt)):Prop where
 aZ:Ix p u f
 dG:pp p an r u f.next L
 own:Own g ((p.aP,gn p an ar)::(r,.al false f.l)::L)
 fl:fl=r::L.map (·.1)
variable{g:G}{n:Nat}{a:aE}{K:cj aE}{p:ew}{fl:List Nat}{r:Nat}{u:gD}{f:bF}{L:List (Nat×bt)}
def jc(p:ew)(g:G)(n:Nat)(fl:List Nat)(r:Nat)(K:cj aE)(u:gD)(a:aE):Prop:=
 ∀g' n' fl' cn iF,n<=n'->kW p a.an a.ar g' fl' r u cn iF->(∀b∈fl',b∈fl\/n<=b)->(∀b,b<n->b∉fl->g' b=g b)->K (.bN []) g' n' a
theorem aIG{bK:Int}(hu:u.aY= .wait bK)(h:kW p a.an a.ar g fl r u f L)(ap:bm g n){w:Int}(ak:0<=u.room/\u.room<1000)(hw:a.at_ p.R (bW u.room+1) w)
 (J:w≠bK->jc p g n fl r K u a.tick) (U:w=bK->jc p g n fl r K {u with aY:=.go} a.tick):
 eG f.next [] g n a K:=by
 have a5:=h
 obtain⟨aZ,dG,own,rfl⟩:=h
 simp only[pp,hu]at dG
 obtain⟨dd,c1,c2,t,b0,b1,x,hv,rfl⟩:=dG
 refine⟨_,_,_,hv,?_⟩
 have aH:f.done= .bool false:=by rw[aZ.done,hu];rfl
 refine iU fun F D T=>?_
 have bg:g t=some (lc a.an p.R (bW u.room) bK (.fn (.func 265) [.ptr t 0] [])):=by simp only[F]
 refine bE i221 fun N aF=>?_
 refine aL uh (cw F D T) ?_
 refine BZ bg (NL ap bg (by simp only[bW];omega) hw (fun bp n' az=>?_) fun he g' n' az sy aw=>?_)
 .intro dm
  refine dl uh ?_
  apply aF
  refine a6 i221.eq_1 ?_
  exact fun _=>.all (J bp g n' _ f _ az a5 (fun b ad=>.inl ad) fun b _ _=>rfl)
 .intro dm
  have E:=gW aw [dd,c1,c2,r,b0,b1,p.aP] ua
  simp only[h4,and_true]at E
  refine aL uh (eW E F D T @cK) ?_
  apply aF
  refine a6 i221.eq_1 ?_
  intro _
  refine .all (U he _ n' _ {f with next:=wR b0 b1} _ az ⟨hz,⟨b0,b1,x,rfl,rfl⟩,⟨?_,?_⟩,rfl⟩ ?_ ?_)
  .exact eP E
  .exact hc
  .exact ho
  .exact Ik aw
end
section
variable{g:G}{n:Nat}{a:aE}{K:cj aE}{p:ew}{fl:List Nat}{r:Nat}{u:gD}{f:bF}{L:List (Nat×bt)}
theorem AO{nV v1 v2 fm:V}(aV:g r=some (.al false f.l))(ap:bm g n)(dd:nV.cell=true/\nV.known=true)(c1:v1.cell=true/\v1.known=true)(c2:v2.cell=true/\v2.known=true)(eu:fm.cell=true/\fm.known=true)
 (ah:∀g' n',n<=n'->g' r=some (.al false {f with hl:=nV,gJ:=v1,fV:=v2,fW:=fm,effect:=.bool true}.l)->(∀b,b<n->b≠r->g' b=g b)->K (.bN []) g' n' a):aR ct bA 167 [.ptr r 0,.agg [nV,v1,v2,fm]] g n a K:=by
 have cV:=ap _ _ aV
 refine bE i167 fun N aF=>?_
 refine aL aun (ji aV (dF cV) (gS cV) (tG cV) (x1 cV) @cK dd.1 c1.1 c2.1 eu.1) ?_
 apply aF
 refine a6 i167.eq_1 ?_
 intro az
 refine .all (ah _ _ az (bD @cK) fun b ad bI=>?_)
 have e:(r=b)=False:=eq_false fun e=>bI e.symm
 exact bD (cw e (dF ad) (gS ad))
theorem QB{nV v1 v2 fm:V}(aV:g r=some (.al false f.l))(ap:bm g n)(dd:nV.cell=true/\nV.known=true)(c1:v1.cell=true/\v1.known=true)(c2:v2.cell=true/\v2.known=true)(eu:fm.cell=true/\fm.known=true)
 (ah:∀g' n',n<=n'->g' r=some (.al false {f with hl:=nV,gJ:=v1,fV:=v2,fW:=fm,effect:=.bool true,next:=.fn (.func 173) [.ptr r 0] []}.l)->(∀b,b<n->b≠r->g' b=g b)->K (.bN []) g' n' a):aR ct bA 280 [.ptr r 0,.agg [nV,v1,v2,fm]] g n a K:=by
 have cV:=ap _ _ aV
 refine bE i280 fun N aF=>?_
 refine dl OQ ?_
 refine AO (f:=f) (by rw[bJ,if_neg I];exact aV) (ap.new (Nat.le_refl _) _) dd c1 c2 eu fun g' n' az ke aw=>?_
 intro dm
 refine aL OQ (aN ke @cK) ?_
 apply aF
 refine a6 i280.eq_1 ?_
 intro _
 refine .all (ah _ _ I (dW) fun b ad bI=>?_)
 rw[bJ,if_neg (fun e=>bI e.symm),aw b I bI,bJ,if_neg I]
theorem L0{e:Int}(aV:g r=some (.al false f.l))(ap:bm g n)
 (ah:∀g' n',n<=n'->g' r=some (.al false {f with hl:=.int .i64 e,gJ:=.br,fV:=.int .u64 0,fW:=.int .i64 0,effect:=.bool true,next:=.fn (.func 173) [.ptr r 0] []}.l)->(∀b,b<n->b≠r->g' b=g b)->K (.bN []) g' n' a):aR ct bA 224 [.ptr r 0,.int .i64 e] g n a K:=by
 refine bE i224 fun N aF=>?_
 refine dl auA ?_
 refine QB aV (ap.mono I) ⟨rfl,rfl⟩ ⟨rfl,rfl⟩ ⟨rfl,rfl⟩ ⟨rfl,rfl⟩ fun g' n' az ke aw=>?_
 intro dm
 apply aF
 refine a6 i224.eq_1 ?_
 exact fun _=>.all (ah _ _ I ke fun b ad=>aw b I)
theorem LJ{α:Type}{A:h3 α}{a:α}{K:cj α}{x:Nat}{k:Int}(hU:0<=k/\k<1000)(ah:∀n',n<=n'->K (.int .i64 (bW k)) g n' a):aR A bA 220 [.ptr x 0,.int .i64 k] g n a K:=by
 have dA:IntKind.wrap .i64 (3*k)=3*k:=wrap_i64 I I
 have h1:IntKind.wrap .i64 (2+3*k)=bW k:=by rw[wrap_i64 I I];simp only[bW];omega
 refine bE i220 fun N aF=>?_
 refine aL auz (aN dA h1) ?_
 apply aF
 refine a6 i220.eq_1 ?_
 exact fun az=>.all (ah _ az)
theorem Ks{k:Int}(aj:g p.aP=some (gn p a.an a.ar))(ap:bm g n)(hU:0<=k/\k<1000)(ah:∀n',n<=n'->K (.agg [.int .i64 p.R,.int .i64 (bW k+2)]) g n' a):aR ct bA 169 [.ptr p.aP 0,.int .i64 k] g n a K:=by
 have dA:IntKind.wrap .i64 (3*k)=3*k:=wrap_i64 I I
 have h1:IntKind.wrap .i64 (2+3*k)=bW k:=by rw[wrap_i64 I I];simp only[bW];omega
 have hD:IntKind.wrap .i64 (bW k+2)=bW k+2:=wrap_i64 (by simp only[bW];omega) (by simp only[bW];omega)
 have da:=ap _ _ aj
 simp only[gn]at aj
 refine bE i169 fun N aF=>?_
 refine aL auo (d' dA h1 hD aj (dF da) (gS da)) ?_
 apply aF
 refine a6 i169.eq_1 ?_
 intro az
 refine⟨g,fun b c ad=>?_,ah _ az⟩
 have:=ap _ _ ad
 rw[bJ,if_neg I,bJ,if_neg I];exact ad
theorem axV{there:Bool}(aV:g r=some (.al false f.l))(a5:f.hX= .int .i64 2)(aq:f.h_= .int .i64 0)
 (ah:∀n',n<=n'->K (.bN []) (a1 g r (.al false {f with next:=.fn (.func (if there then 225 else 226)) [.ptr r 0] []}.l)) n' a):aR ct bA 162 [.ptr r 0,.bool there] g n a K:=by
 refine bE i162 fun N aF=>?_
 cases there
 .refine aL Ox (cc aV a5 aq @cK) ?_
  apply aF
  refine a6 i162.eq_1 ?_
  exact fun az=>.all (by have:=ah _ az;simpa[a5,aq]using this)
 .refine aL Ox (cc aV a5 aq @cK) ?_
  apply aF
  refine a6 i162.eq_1 ?_
  exact fun az=>.all (by have:=ah _ az;simpa[a5,aq]using this)
theorem Ja{there:Bool}{b0 b1:Nat}{k rk:Int}{x:V}(aV:g r=some (.al false f.l))(a5:f.hX= .int .i64 2)(aq:f.h_= .int .i64 0)(tn:f.key= .int .u64 rk)(vI:g b0=some (.al false [.ptr r 0]))(n9:g b1=some (.al false [.int .i64 2,.int .u64 k,x,.int .i64 0,.int .i64 0]))
 (ah:∀n',n<=n'->K (.bN []) (a1 g r (.al false {f with next:=.fn (.func (if there=true/\rk=k then 225 else 226)) [.ptr r 0] []}.l)) n' a):aR ct bA 161 ([]++[.bool there]++[.ptr b0 0,.ptr b1 0]) g n a K:=by
 refine bE i161 fun N aF=>?_
 have fin:∀{c:Bool},c=decide (there=true/\rk=k)->aR ct bA 162 [.ptr r 0,.bool c] g (n+12) a (fun v g' n' a'=>bm g' n'->v= .bN []/\(n<=n'->K (.bN []) g' n' a')):=fun{c} af=>by
  refine axV aV a5 aq fun n' az=>fun _=>⟨rfl,fun _=>?_⟩
  have:=ah n' I
  subst af
  simpa using this
 cases there
 .refine aL IF (eW aV vI n9 tn @cK) ?_
  refine aR.mono (fin (c:=false) aM) fun v g' n' a' az hv aA=>?_
  obtain⟨rfl,rO⟩:=hv aA
  apply aF
  refine a6 i161.eq_1 ?_
  exact fun h=>.all (rO h)
 .by_cases e:rk=k
  .have eE:(rk==k)=true:=by simpa using e
   refine aL IF (d' aV vI n9 tn eE @cK) ?_
   refine aR.mono (fin (c:=true) (by simp[e])) fun v g' n' a' az hv aA=>?_
   obtain⟨rfl,rO⟩:=hv aA
   apply aF
   refine a6 i161.eq_1 ?_
   exact fun h=>.all (rO h)
  .have eE:(rk==k)=false:=by simpa using e
   refine aL IF (d' aV vI n9 tn eE @cK) ?_
   refine aR.mono (fin (c:=false) (by simp[e])) fun v g' n' a' az hv aA=>?_
   obtain⟨rfl,rO⟩:=hv aA
   apply aF
   refine a6 i161.eq_1 ?_
   exact fun h=>.all (rO h)
end
section
variable{g:G}{n:Nat}{a:aE}{K:cj aE}{p:ew}{fl:List Nat}{r:Nat}{u:gD}{f:bF}{L:List (Nat×bt)}
theorem jc.trans{bY:G}{bq:Nat}{gI:List Nat}(h:jc p g n fl r K u a)(az:n<=bq)(cE:∀b∈gI,b∈fl\/n<=b)(aw:∀b,b<n->b∉fl->bY b=g b):jc p bY bq gI r K u a:=by
 intro g' n' fl' cn iF oF ak oD p7
 refine h g' n' fl' cn iF I ak (fun b ad=>?_) fun b ad bI=>?_
 .rcases oD b ad with J|J
  .exact cE b J
  .exact .inr I
 .rw[p7 b I (fun J=>?_),aw b ad bI]
  rcases cE b J with U|U
  .exact bI U
  .omega
theorem asG(hu:u.aY= .load)(h:kW p a.an a.ar g fl r u f L)(ap:bm g n){w:Int}(hw:a.at_ u.bk u.bo w)
 (J:IntKind.wrap .i64 w=0->jc p g n fl r K {u with a7:=0,aY:=.space} a.tick) (U:IntKind.wrap .i64 w≠0->jc p g n fl r K {u with a7:=IntKind.wrap .i64 w,aY:=.ask} a.tick):
 eG f.next [] g n a K:=by
 obtain⟨aZ,dG,own,rfl⟩:=h
 simp only[pp,hu]at dG
 obtain⟨d0,d1,d2,d3,d4,d5,b0,b1,x,hv,rfl⟩:=dG
 refine⟨_,_,_,hv,?_⟩
 have aH:f.done= .bool false:=by rw[aZ.done,hu];rfl
 refine iU fun F D T=>?_
 refine bE i223 fun N aF=>?_
 refine aL IJ (gq F D T @cK aZ.x aZ.bk aZ.bo) ?_
 refine rT hw fun n' az=>?_
 intro dm
 by_cases bB:IntKind.wrap .i64 w=0
 .refine aL (aN My.eq_1 IJ) (e_ F D T @cK aZ.x aZ.bk aZ.bo bB) ?_
  refine Ja (r:=r) (b0:=b0) (b1:=b1) (f:={f with a7:=.int .i64 0,next:=yh d0 d1 d2 d3 d4}) (k:=u.key) (rk:=u.rk) (x:=x) ?_ aZ.hX aZ.h_ aZ.key ?_ ?_ fun aT cB=>?_
  .exact eP (jV aZ aH)
  .exact eP (jV aZ aH)
  .exact eP (jV aZ aH)
  intro jz
  apply aF
  refine a6 i223.eq_1 ?_
  intro _
  refine .all (J bB _ aT _ {f with a7:=.int .i64 0,next:=.fn (.func 226) [.ptr r 0] []} [] I ⟨hz,⟨rfl,rfl⟩,⟨?_,?_⟩,rfl⟩ ?_ ?_)
  .exact eP (jV aZ aH)
  .exact hc
  .exact ho
  .exact nY
 .refine aL (aN My.eq_1 IJ) (e_ F D T @cK aZ.x aZ.bk aZ.bo bB) ?_
  apply aF
  refine a6 i223.eq_1 ?_
  intro _
  refine .all (U bB _ n' _ {f with a7:=.int .i64 (IntKind.wrap .i64 w),next:=yh d0 d1 d2 d3 d4} _ I ⟨hz,⟨d0,d1,d2,d3,d4,d5,b0,b1,x,rfl,rfl⟩,⟨?_,?_⟩,rfl⟩ ?_ ?_)
  .exact eP (jV aZ aH)
  .exact hc
  .exact ho
  .exact nY
end
section
variable{g:G}{n:Nat}{a:aE}{K:cj aE}{p:ew}{fl:List Nat}{r:Nat}{u:gD}{f:bF}{L:List (Nat×bt)}
theorem aIv(hu:u.aY= .ask)(h:kW p a.an a.ar g fl r u f L)(ap:bm g n){w:Int}(hw:a.at_ u.a7 1 w)
 (J:u.key<w->jc p g n fl r K {u with rk:=w,aY:=.space} a.tick) (U:w=u.key->jc p g n fl r K {u with rk:=w,aY:=.set} a.tick)
 (aq:w<u.key->jc p g n fl r K {u with rk:=w,bk:=u.a7,bo:=0,aY:=.load} a.tick):
 eG f.next [] g n a K:=by
 obtain⟨aZ,dG,own,rfl⟩:=h
 simp only[pp,hu]at dG
 obtain⟨d0,d1,d2,d3,d4,d5,b0,b1,x,hv,rfl⟩:=dG
 refine⟨_,_,_,hv,?_⟩
 have aH:f.done= .bool false:=by rw[aZ.done,hu];rfl
 refine iU fun F D T=>?_
 refine bE i222 fun N aF=>?_
 refine aL Fv (d' F D T @cK aZ.x aZ.a7) ?_
 refine rT hw fun n' az=>?_
 intro dm
 rcases Int.lt_trichotomy w u.key with af|af|af
 .have c1:¬u.key<w:=I
  have c2:(w==u.key)=false:=by simp;omega
  refine aL (aN HE.eq_1 Fv) (e_ F D T @cK aZ.x aZ.a7 c1 c2) ?_
  apply aF
  refine a6 i222.eq_1 ?_
  intro _
  refine .all (aq af _ _ _ {f with key:=.int .u64 w,bk:=.int .i64 u.a7,bo:=.int .i64 0,next:=va d0 d3 d5} _ I ⟨hz,⟨d0,d1,d2,d3,d4,d5,b0,b1,x,rfl,rfl⟩,⟨?_,?_⟩,rfl⟩ ?_ ?_)
  .exact eP (jV aZ aH)
  .exact hc
  .exact ho
  .exact nY
 .have c1:¬u.key<w:=I
  have c2:(w==u.key)=true:=by simpa using af
  refine aL (aN HE.eq_1 Fv) (e_ F D T @cK aZ.x aZ.a7 c1 c2) ?_
  refine Ja (r:=r) (b0:=b0) (b1:=b1) (f:={f with key:=.int .u64 w}) (k:=u.key) (rk:=w) (x:=x) ?_ aZ.hX aZ.h_ rfl ?_ ?_ fun aT cB=>?_
  .exact eP (jV aZ aH)
  .exact eP (jV aZ aH)
  .exact eP (jV aZ aH)
  intro jz
  apply aF
  refine a6 i222.eq_1 ?_
  intro _
  refine .all (U af _ aT _ {f with key:=.int .u64 w,next:=.fn (.func 225) [.ptr r 0] []} [] I ⟨hz,⟨rfl,rfl⟩,⟨?_,?_⟩,rfl⟩ ?_ ?_)
  .exact eP (aN (jV aZ aH) af)
  .exact hc
  .exact ho
  .exact nY
 .refine aL (aN HE.eq_1 Fv) (gq F D T @cK aZ.x aZ.a7 af) ?_
  have c1:¬w=u.key:=I
  refine Ja (r:=r) (b0:=b0) (b1:=b1) (f:={f with key:=.int .u64 w}) (k:=u.key) (rk:=w) (x:=x) ?_ aZ.hX aZ.h_ rfl ?_ ?_ fun aT cB=>?_
  .exact eP (jV aZ aH)
  .exact eP (jV aZ aH)
  .exact eP (jV aZ aH)
  intro jz
  apply aF
  refine a6 i222.eq_1 ?_
  intro _
  refine .all (J af _ aT _ {f with key:=.int .u64 w,next:=.fn (.func 226) [.ptr r 0] []} [] I ⟨hz,⟨rfl,rfl⟩,⟨?_,?_⟩,rfl⟩ ?_ ?_)
  .exact eP (aN (jV aZ aH) c1)
  .exact hc
  .exact ho
  .exact nY
end
section
variable{g:G}{n:Nat}{a:aE}{K:cj aE}{p:ew}{fl:List Nat}{r:Nat}{u:gD}{f:bF}{L:List (Nat×bt)}
theorem aIx(hu:u.aY= .draw)(h:kW p a.an a.ar g fl r u f L)(ap:bm g n){w:Int}(hw:a.at_ p.R (bW u.room) w)
 (J:jc p g n fl r K {u with aY:=.wait w} (a.put p.R (bW u.room) (fy w 18446744073709551615 1))):
 eG f.next [] g n a K:=by
 obtain⟨aZ,dG,own,rfl⟩:=h
 simp only[pp,hu]at dG
 obtain⟨dd,c1,c2,t,b0,b1,x,hv,rfl⟩:=dG
 refine⟨_,_,_,hv,?_⟩
 have aH:f.done= .bool false:=by rw[aZ.done,hu];rfl
 refine iU fun F D T=>?_
 have bg:g t=some (lc a.an p.R (bW u.room) 0 (.fn (.func 211) [.ptr t 0] [])):=by simp only[F]
 refine bE i221 fun N aF=>?_
 refine aL uh (cw F D T) ?_
 refine BZ bg (Jw ap bg hw fun g' n' az sy aw=>?_)
 intro dm
 have E:=gW aw [dd,c1,c2,r,b0,b1,p.aP] ua
 simp only[h4,and_true]at E
 refine dl uh ?_
 apply aF
 refine a6 i221.eq_1 ?_
 intro _
 refine .all (J _ n' _ f _ az ⟨hz,⟨dd,c1,c2,t,b0,b1,x,hv,rfl⟩,⟨?_,?_⟩,rfl⟩ ?_ ?_)
 .exact eP (aN E sy)
 .exact hc
 .exact ho
 .exact Ik aw
theorem aIE(hu:u.aY= .set)(h:kW p a.an a.ar g fl r u f L)(ap:bm g n){w:Int}(hw:a.at_ u.a7 2 w)(ga:dZ u.val)
 (J:jc p g n fl r K {u with bH:=true,aY:=.leave} (a.put u.a7 2 u.val)):
 eG f.next [] g n a K:=by
 obtain⟨aZ,dG,own,rfl⟩:=h
 simp only[pp,hu]at dG
 obtain⟨hv,rfl⟩:=dG
 refine⟨_,_,_,hv,?_⟩
 have aH:f.done= .bool false:=by rw[aZ.done,hu];rfl
 refine iU fun F D T=>?_
 refine bE i225 fun N aF=>?_
 refine aL OJ (gq F D T @cK aZ.x aZ.a7 aZ.val) ?_
 refine ye hw ga fun n' az=>?_
 intro dm
 refine dl OJ ?_
 refine QB (f:=f) (by simp only[F]) dm ⟨rfl,rfl⟩ ⟨rfl,rfl⟩ ⟨rfl,rfl⟩ ⟨rfl,rfl⟩ fun ba aT cB fQ cQ=>?_
 intro jz
 have E:=gW (fun b ad h=>cQ b I h) [p.aP] (n:=n) ua
 simp only[h4,and_true]at E
 apply aF
 refine a6 i225.eq_1 ?_
 intro _
 refine .all (J _ aT _ {f with hl:=.int .i64 0,gJ:=.br,fV:=.int .u64 0,fW:=.int .i64 0,effect:=.bool true,next:=.fn (.func 173) [.ptr r 0] []} [] I ⟨hz,⟨rfl,rfl⟩,⟨?_,?_⟩,rfl⟩ ?_ ?_)
 .exact eP (aN E fQ)
 .exact hc
 .exact ho
 .intro b ad bI
  exact cQ b I fun e=>bI (by simp[e])
theorem aIA(hu:u.aY= .leave)(h:kW p a.an a.ar g fl r u f L)(ap:bm g n){w:Int}(ak:0<=u.room/\u.room<1000)(hw:a.at_ p.R (bW u.room+1) w)
 (J:jc p g n fl r K {u with aY:=.done} (a.put p.R (bW u.room+1) (fy w 18446744073709551615 1))):
 eG f.next [] g n a K:=by
 obtain⟨aZ,dG,own,rfl⟩:=h
 simp only[pp,hu]at dG
 obtain⟨hv,rfl⟩:=dG
 refine⟨_,_,_,hv,?_⟩
 have aH:f.done= .bool false:=by rw[aZ.done,hu];rfl
 refine iU fun F D T=>?_
 refine bE i173 fun N aF=>?_
 refine aL Au (d' F D T @cK aZ.x aZ.room) ?_
 refine LJ ak fun n' az=>?_
 intro dm
 refine aL (aN Mt.eq_1 Au) (d' F D T @cK aZ.x aZ.room) ?_
 refine Jx (by simp only[bW];omega) hw fun aT cB=>?_
 intro jz
 refine aL Au (d' F D T @cK aZ.x aZ.room) ?_
 apply aF
 refine a6 i173.eq_1 ?_
 intro _
 refine .all (J _ aT _ {f with done:=.bool true} [] I ⟨hz,rfl,⟨?_,?_⟩,rfl⟩ ?_ ?_)
 .exact eP (jV aZ aH)
 .exact hc
 .exact ho
 .exact nY
theorem aIF(hu:u.aY= .space)(h:kW p a.an a.ar g fl r u f L)(ap:bm g n){w:Int}(hw:a.at_ p.R 0 w)(mJ:0<=p.E/\p.E<1000)(o5:0<=u.made)
 (RE:0<u.made->a.m.has u.made/\∀x∈a.queue,x.h≠u.made)
 (J:gy w 4294967295<p.E->u.made=0->jc p g n fl r K {u with fu:=gy w 4294967295,aY:=.make} a.tick)
 (U:gy w 4294967295<p.E->u.made≠0->jc p g n fl r K {u with fu:=gy w 4294967295,aY:=.add} a.tick)
 (aq:¬gy w 4294967295<p.E->w.fdiv (2 ^ 32)≠0->jc p g n fl r K {u with fu:=gy w 4294967295} a.tick)
 (aK:¬gy w 4294967295<p.E->w.fdiv (2 ^ 32)=0->u.made=0->jc p g n fl r K {u with fu:=gy w 4294967295,bH:=true,aY:=.leave} a.tick)
 (bx:¬gy w 4294967295<p.E->w.fdiv (2 ^ 32)=0->0<u.made->jc p g n fl r K {u with fu:=gy w 4294967295,bH:=true,aY:=.leave} (a.tick.free u.made)):
 eG f.next [] g n a K:=by
 obtain⟨aZ,dG,own,rfl⟩:=h
 simp only[pp,hu]at dG
 obtain⟨hv,rfl⟩:=dG
 refine⟨_,_,_,hv,?_⟩
 have aH:f.done= .bool false:=by rw[aZ.done,hu];rfl
 refine iU fun F D T=>?_
 have cV:r<n:=by simp only[T]
 have yi:IntKind.wrap .u64 p.E=p.E:=wrap_u64 mJ.1 I
 have aLM:IntKind.wrap .u64 (w.fdiv (2 ^ 32))=w.fdiv (2 ^ 32)\/True:=.inr trivial
 refine bE i226 fun N aF=>?_
 refine aL yy (eW F D T @cK aZ.x) ?_
 refine rT hw fun n' az=>?_
 intro dm
 by_cases af:gy w 4294967295<p.E
 .by_cases hm:u.made=0
  .refine aL (aN BS.eq_1 yy) (ji F D T @cK aZ.x aZ.made @vr yi af hm) ?_
   apply aF
   refine a6 i226.eq_1 ?_
   intro _
   refine .all (J af hm _ _ _ {f with fu:=.int .u64 (gy w 4294967295),next:=.fn (.func 282) [.ptr r 0] []} [] I ⟨hz,⟨rfl,rfl⟩,⟨?_,?_⟩,rfl⟩ ?_ ?_)
   .exact eP (aN (jV aZ aH) hm)
   .exact hc
   .exact ho
   .exact nY
  .have nb:(u.made==0)=false:=by simpa using hm
   refine aL (aN BS.eq_1 yy) (kw F D T @cK aZ.x aZ.made @vr yi af nb hm) ?_
   apply aF
   refine a6 i226.eq_1 ?_
   intro _
   refine .all (U af hm _ _ _ {f with fu:=.int .u64 (gy w 4294967295),next:=.fn (.func 283) [.ptr r 0] []} [] I ⟨hz,⟨rfl,rfl⟩,⟨?_,?_⟩,rfl⟩ ?_ ?_)
   .exact eP (jV aZ aH)
   .exact hc
   .exact ho
   .exact nY
 .by_cases bB:w.fdiv (2 ^ 32)=0
  .have k6:w.fdiv (2 ^ min 32 (IntKind.bits .u64))=0:=bB
   by_cases hm:u.made=0
   .refine fG (aN BS.eq_1 yy) (bs F D T @cK aZ.x aZ.made @vr yi af hm k6 @Int.lt_irrefl) ?_
    refine L0 (r:=r) (f:={f with fu:=.int .u64 (gy w 4294967295)}) ?_ ((dm.a1 I _).mono I) fun ba aT cB fQ cQ=>?_
    .exact eP (aN (jV aZ aH) hm)
    intro jz
    have E:=gW (fun b ad h=>cQ b I h) [p.aP] (n:=n) ua
    simp only[h4,and_true]at E
    apply aF
    refine a6 i226.eq_1 ?_
    intro _
    refine .all (aK af bB hm _ _ _ {f with fu:=.int .u64 (gy w 4294967295),hl:=.int .i64 4,gJ:=.br,fV:=.int .u64 0,fW:=.int .i64 0,effect:=.bool true,next:=.fn (.func 173) [.ptr r 0] []} [] I ⟨hz,⟨rfl,rfl⟩,⟨?_,?_⟩,rfl⟩ ?_ ?_)
    .exact eP (aN E fQ)
    .exact hc
    .exact ho
    .intro b ad bI
     have e:(r=b)=False:=eq_false fun e=>bI (by simp[e])
     rw[cQ b I fun e=>bI (by simp[e])]
     exact bD e
   .have xH:0<u.made:=I
    refine fG (aN BS.eq_1 yy) (kw F D T @cK aZ.x aZ.made @vr yi af xH k6) ?_
    refine axW (a:=a.tick) (RE xH).1 (RE xH).2 fun aT cB=>?_
    intro jz
    refine aL yy (d' F D T @cK aZ.x aZ.made) ?_
    refine L0 (r:=r) (f:={f with fu:=.int .u64 (gy w 4294967295)}) ?_ ((jz.mono I)) fun ba cq iJ fQ cQ=>?_
    .exact eP (jV aZ aH)
    intro rG
    have E:=gW (fun b ad h=>cQ b I h) [p.aP] (n:=n) ua
    simp only[h4,and_true]at E
    apply aF
    refine a6 i226.eq_1 ?_
    intro _
    refine .all (bx af bB xH _ _ _ {f with fu:=.int .u64 (gy w 4294967295),hl:=.int .i64 4,gJ:=.br,fV:=.int .u64 0,fW:=.int .i64 0,effect:=.bool true,next:=.fn (.func 173) [.ptr r 0] []} [] I ⟨hz,⟨rfl,rfl⟩,⟨?_,?_⟩,rfl⟩ ?_ ?_)
    .exact eP (cw E fQ aE.free.eq_1)
    .exact hc
    .exact ho
    .intro b ad bI
     have e:(r=b)=False:=eq_false fun e=>bI (by simp[e])
     rw[cQ b I fun e=>bI (by simp[e])]
     exact bD e
  .have k6:¬w.fdiv (2 ^ min 32 (IntKind.bits .u64))=0:=bB
   refine fG (aN BS.eq_1 yy) (ji F D T @cK aZ.x aZ.made @vr yi af k6) ?_
   apply aF
   refine a6 i226.eq_1 ?_
   intro _
   refine .all (aq af bB _ _ _ {f with fu:=.int .u64 (gy w 4294967295)} [] I ⟨hz,by simp only[pp,hu];exact⟨hv,trivial⟩,⟨?_,?_⟩,rfl⟩ ?_ ?_)
   .exact eP (jV aZ aH)
   .exact hc
   .exact ho
   .exact nY
end
section
variable{g:G}{n:Nat}{a:aE}{K:cj aE}{p:ew}{fl:List Nat}{r:Nat}{u:gD}{f:bF}{L:List (Nat×bt)}
theorem aIC(hu:u.aY= .make)(h:kW p a.an a.ar g fl r u f L)(ap:bm g n)(na:0<=a.m.made/\a.m.made<1000000000)
 (J:a.m.room<3->jc p g n fl r K {u with bH:=true,aY:=.leave} a)
 (U:3<=a.m.room->∀b,jc p g n fl r K {u with made:=a.m.made+1,aY:=.fill 3} (a.make 3 b)):
 eG f.next [] g n a K:=by
 obtain⟨aZ,dG,own,rfl⟩:=h
 simp only[pp,hu]at dG
 obtain⟨hv,rfl⟩:=dG
 refine⟨_,_,_,hv,?_⟩
 have aH:f.done= .bool false:=by rw[aZ.done,hu];rfl
 refine iU fun F D T=>?_
 have cV:r<n:=by simp only[T]
 have da:p.aP<n:=by simp only[T]
 refine bE i282 fun N aF=>?_
 refine aL IM (eW F D T @cK aZ.x) ?_
 refine Hg (k:=3) (by decide) (by decide) na (fun ak n' az=>?_) fun ak n' b az=>?_
 .intro dm
  refine aL (aN MG.eq_1 IM) (e_ F D T @cK aZ.x (ag (I:n<n')) (ag (I:r<n')) (ag (I:p.aP<n'))) ?_
  refine dO fun cf=>L0 (r:=r) (f:=f) ?_ cf fun ba aT cB fQ cQ=>?_
  .exact eP (jV aZ aH)
  intro jz
  have E:=gW (fun b ad h=>cQ b I h) [p.aP] (n:=n) ua
  simp only[h4,and_true]at E
  apply aF
  refine a6 i282.eq_1 ?_
  intro _
  refine .all (J ak _ aT _ {f with hl:=.int .i64 5,gJ:=.br,fV:=.int .u64 0,fW:=.int .i64 0,effect:=.bool true,next:=.fn (.func 173) [.ptr r 0] []} [] I ⟨hz,⟨rfl,rfl⟩,⟨?_,?_⟩,rfl⟩ ?_ ?_)
  .exact eP (aN E fQ)
  .exact hc
  .exact ho
  .intro b ad bI
   have e:(r=b)=False:=eq_false fun e=>bI (by simp[e])
   rw[cQ b I fun e=>bI (by simp[e])]
   exact bc (cw (dF ad) (gS ad) e)
 .intro dm
  refine aL (aN MG.eq_1 IM) (bs F D T @cK aZ.x aZ.a7 aZ.g5 aZ.val (ag (I:n<n')) (ag (I:r<n')) (ag (I:p.aP<n')) (cc (ag (I:n<n'+1)) (ag (I:n'<n'+1)) (ag (I:r<n'+1)) (ag (I:p.aP<n'+1)))) ?_
  apply aF
  refine a6 i282.eq_1 ?_
  intro _
  refine .all (U ak b _ _ _ {f with made:=.int .i64 (a.m.made+1),next:=.fn (.func 324) [] [.ptr (n'+16) 0,.ptr n 0,.ptr n' 0]} _ I ⟨hz,⟨n'+16,n,n',n'+15,rfl,rfl⟩,⟨?_,?_⟩,rfl⟩ ?_ ?_)
  .exact eP (jV aZ aH)
  .exact hc
  .exact ho
  .exact nY
end
section
variable{g:G}{n:Nat}{a:aE}{K:cj aE}{p:ew}{fl:List Nat}{r:Nat}{u:gD}{f:bF}{L:List (Nat×bt)}
theorem P'{α:Type}{A:h3 α}{a:α}{K:cj α}{v:V}(af:v.cell=true)(g2:v.cells=[v])(nE:v.known=true)(ap:bm g n)(ah:∀n',n+2<=n'->K (.fn (.func 285) [] [.ptr n 0,.ptr (n+1) 0]) (a1 (a1 g n (.al false [.ptr r 0])) (n+1) (.al false [v])) n' a):aR A bA 232 [.ptr r 0,v] g n a K:=by
 refine bE i232 fun N aF=>?_
 refine aL auB (cw af g2 nE) ?_
 apply aF
 refine a6 i232.eq_1 ?_
 intro _
 exact .all (ah _ I)
theorem aIy{j:Nat}(hu:u.aY= .fill j)(h:kW p a.an a.ar g fl r u f L)(ap:bm g n)(ax:j=1\/j=2\/j=3){w:Int}(hw:a.at_ u.made (j-1:Nat) w)(ah:dZ u.key)(rP:dZ u.val)
 (J:j=1->jc p g n fl r K {u with aY:=.jY} (a.put u.made 0 (IntKind.wrap .u64 u.a7)))
 (U:j=2->jc p g n fl r K {u with aY:=.fill 1} (a.put u.made 1 u.key))
 (aq:j=3->jc p g n fl r K {u with aY:=.fill 2} (a.put u.made 2 u.val)):
 eG f.next [] g n a K:=by
 obtain⟨aZ,dG,own,rfl⟩:=h
 simp only[pp,hu]at dG
 obtain⟨w0,iA,F6,ws,hv,rfl⟩:=dG
 refine⟨_,_,_,hv,?_⟩
 have aH:f.done= .bool false:=by rw[aZ.done,hu];rfl
 refine iU fun F D T=>?_
 refine bE i324 fun N aF=>?_
 rcases ax with rfl|rfl|rfl
 .have aa:q9 1 (V.slice ws 0 1 3 1) none (some (V.int .i64 0))=some (.slice ws 0 0 3 1):=rfl
  have dA:IntKind.wrap .i64 0=0:=rfl
  have h1:((1:Int)-1)=0:=rfl
  refine aL yz (bs F D T @cK aZ.x words.eq_1 dA h1 @Int.natCast_one @Int.sub_self @Int.cast_ofNat_Int @Int.natCast_add) ?_
  refine ye hw (vd _) fun n' az=>?_
  intro dm
  have lw:w0<n':=dm w0 _ F.2.2.1
  have mm:iA<n':=dm iA _ F.2.2.2.1
  refine aL yz (e_ F D T @cK aZ.x words.eq_1 dA aa) ?_
  refine dO fun cf=>P' rfl (by rfl) rfl cf fun aT cB=>?_
  intro dC
  have cV:r<n':=dm r _ F.2.1
  have da:p.aP<n':=dm p.aP _ F.1
  refine aL (aN adY.eq_1 yz) (kw F D T @cK aZ.x words.eq_1 dA (ag (I:r<n')) (ag (I:iA<n')) (ag (I:w0<n')) (ag (I:p.aP<n'))) ?_
  apply aF
  refine a6 i324.eq_1 ?_
  intro _
  refine .all (J rfl _ _ _ {f with next:=.fn (.func 285) [] [.ptr (n'+8) 0,.ptr (n'+9) 0]} _ I ⟨hz,⟨n'+8,n'+9,rfl,rfl⟩,⟨?_,?_⟩,rfl⟩ ?_ ?_)
  .exact eP (jV aZ aH)
  .exact hc
  .exact ho
  .exact nY
 .have aa:q9 1 (V.slice ws 0 2 3 1) none (some (V.int .i64 1))=some (.slice ws 0 1 3 1):=rfl
  have dA:IntKind.wrap .i64 1=1:=rfl
  have h1:((2:Int)-1)=1:=rfl
  refine aL yz (bs F D T @cK aZ.x words.eq_1 dA h1 @Int.natCast_one @Int.sub_self @Int.cast_ofNat_Int @Int.natCast_add) ?_
  refine ye hw (ah) fun n' az=>?_
  intro dm
  have lw:w0<n':=dm w0 _ F.2.2.1
  have mm:iA<n':=dm iA _ F.2.2.2.1
  refine aL yz (e_ F D T @cK aZ.x words.eq_1 dA aa) ?_
  apply aF
  refine a6 i324.eq_1 ?_
  intro _
  refine .all (U rfl _ _ _ f _ I ⟨hz,⟨w0,iA,F6,ws,hv,rfl⟩,⟨?_,?_⟩,rfl⟩ ?_ ?_)
  .exact eP (jV aZ aH)
  .exact hc
  .exact ho
  .exact nY
 .have aa:q9 1 (V.slice ws 0 3 3 1) none (some (V.int .i64 2))=some (.slice ws 0 2 3 1):=rfl
  have dA:IntKind.wrap .i64 2=2:=rfl
  have h1:((3:Int)-1)=2:=rfl
  refine aL yz (bs F D T @cK aZ.x words.eq_1 dA h1 @Int.natCast_one @Int.sub_self @Int.cast_ofNat_Int @Int.natCast_add) ?_
  refine ye hw (rP) fun n' az=>?_
  intro dm
  have lw:w0<n':=dm w0 _ F.2.2.1
  have mm:iA<n':=dm iA _ F.2.2.2.1
  refine aL yz (e_ F D T @cK aZ.x words.eq_1 dA aa) ?_
  apply aF
  refine a6 i324.eq_1 ?_
  intro _
  refine .all (aq rfl _ _ _ f _ I ⟨hz,⟨w0,iA,F6,ws,hv,rfl⟩,⟨?_,?_⟩,rfl⟩ ?_ ?_)
  .exact eP (jV aZ aH)
  .exact hc
  .exact ho
  .exact nY
theorem aIw(hu:u.aY= .jY)(h:kW p a.an a.ar g fl r u f L)(ap:bm g n){w:Int}(hw:a.at_ p.R 1 w)
 (J:jc p g n fl r K {u with aY:=.add} (a.put p.R 1 (fy w 18446744073709551615 1))):
 eG f.next [] g n a K:=by
 obtain⟨aZ,dG,own,rfl⟩:=h
 simp only[pp,hu]at dG
 obtain⟨sJ,j6,hv,rfl⟩:=dG
 refine⟨_,_,_,hv,?_⟩
 have aH:f.done= .bool false:=by rw[aZ.done,hu];rfl
 refine iU fun F D T=>?_
 refine bE i285 fun N aF=>?_
 refine aL Az (eW F D T @cK aZ.x) ?_
 refine yQ hw fun n' az=>?_
 intro dm
 refine aL Az (eW F D T @cK aZ.x) ?_
 apply aF
 refine a6 i285.eq_1 ?_
 intro _
 refine .all (J _ _ _ {f with next:=.fn (.func 283) [.ptr r 0] []} [] I ⟨hz,⟨rfl,rfl⟩,⟨?_,?_⟩,rfl⟩ ?_ ?_)
 .exact eP (jV aZ aH)
 .exact hc
 .exact ho
 .exact nY
theorem aIu(hu:u.aY= .add)(h:kW p a.an a.ar g fl r u f L)(ap:bm g n){w:Int}(hw:a.at_ p.R 0 w)(dR:0<=u.fu/\u.fu<100000)
 (J:gy w 4294967295≠u.fu->jc p g n fl r K {u with aY:=.space} (a.put p.R 0 (o1 w 4294967295 u.fu (u.fu+1))))
 (U:gy w 4294967295=u.fu->jc p g n fl r K {u with bH:=true,aY:=.link} (a.put p.R 0 (o1 w 4294967295 u.fu (u.fu+1)))):
 eG f.next [] g n a K:=by
 obtain⟨aZ,dG,own,rfl⟩:=h
 simp only[pp,hu]at dG
 obtain⟨hv,rfl⟩:=dG
 refine⟨_,_,_,hv,?_⟩
 have aH:f.done= .bool false:=by rw[aZ.done,hu];rfl
 refine iU fun F D T=>?_
 have cV:r<n:=by simp only[T]
 have da:p.aP<n:=by simp only[T]
 have dA:IntKind.wrap .u64 (u.fu+1)=u.fu+1:=wrap_u64 I I
 refine bE i283 fun N aF=>?_
 refine aL FB (gq F D T @cK aZ.x aZ.fu dA) ?_
 refine awW hw fun n' az=>?_
 intro dm
 by_cases af:gy w 4294967295=u.fu
 .have fB:(gy w 4294967295 != u.fu)=false:=by simpa using af
  refine aL (aN MH.eq_1 FB) (bs F D T @cK aZ.x aZ.fu dA @vr fB (ag (I:n<n')) (ag (I:r<n')) (ag (I:p.aP<n'))) ?_
  refine dO fun cf=>AO (f:=f) ?_ cf ⟨rfl,rfl⟩ ⟨rfl,rfl⟩ ⟨rfl,rfl⟩ ⟨rfl,rfl⟩ fun ba aT cB fQ cQ=>?_
  .exact eP (jV aZ aH)
  intro jz
  have E:=gW (fun b ad h=>cQ b I h) [p.aP] (n:=n) ua
  simp only[h4,and_true]at E
  have kZ:ba n=some (.al false [.ptr r 0]):=by rw[cQ n I I];exact dW
  refine aL FB (cw kZ fQ @cK) ?_
  apply aF
  refine a6 i283.eq_1 ?_
  intro _
  refine .all (U af _ _ _ {f with hl:=.int .i64 0,gJ:=.br,fV:=.int .u64 0,fW:=.int .i64 0,effect:=.bool true,next:=.fn (.func 326) [] [.ptr n 0]} _ I ⟨hz,⟨n,rfl,rfl⟩,⟨?_,?_⟩,rfl⟩ ?_ ?_)
  .exact eP (cc E fQ kZ (jV aZ aH))
  .exact hc
  .exact ho
  .intro b ad bI
   have e:(r=b)=False:=eq_false fun e=>bI (by simp[e])
   exact bc (cw e (cQ b I (fun e=>bI (by simp[e]))) (gS ad))
 .have fB:(gy w 4294967295 != u.fu)=true:=by simpa using af
  refine aL (aN MH.eq_1 FB) (bs F D T @cK aZ.x aZ.fu dA @vr fB (ag (I:n<n')) (ag (I:r<n')) (ag (I:p.aP<n'))) ?_
  apply aF
  refine a6 i283.eq_1 ?_
  intro _
  refine .all (J af _ _ _ {f with next:=.fn (.func 226) [.ptr r 0] []} [] I ⟨hz,⟨rfl,rfl⟩,⟨?_,?_⟩,rfl⟩ ?_ ?_)
  .exact eP (jV aZ aH)
  .exact hc
  .exact ho
  .exact nY
theorem aIB(hu:u.aY= .link)(h:kW p a.an a.ar g fl r u f L)(ap:bm g n){w:Int}(hw:a.at_ u.bk u.bo w)
 (J:jc p g n fl r K {u with aY:=.leave} (a.put u.bk u.bo (IntKind.wrap .u64 u.made))):
 eG f.next [] g n a K:=by
 obtain⟨aZ,dG,own,rfl⟩:=h
 simp only[pp,hu]at dG
 obtain⟨cZ,hv,rfl⟩:=dG
 refine⟨_,_,_,hv,?_⟩
 have aH:f.done= .bool false:=by rw[aZ.done,hu];rfl
 refine iU fun F D T=>?_
 refine bE i326 fun N aF=>?_
 refine aL O0 (e_ F D T @cK aZ.x aZ.bk aZ.bo aZ.made) ?_
 refine ye hw (vd _) fun n' az=>?_
 intro dm
 refine aL O0 (eW F D T @cK aZ.x) ?_
 apply aF
 refine a6 i326.eq_1 ?_
 intro _
 refine .all (J _ _ _ {f with next:=.fn (.func 173) [.ptr r 0] []} [] I ⟨hz,⟨rfl,rfl⟩,⟨?_,?_⟩,rfl⟩ ?_ ?_)
 .exact eP (jV aZ aH)
 .exact hc
 .exact ho
 .exact nY
end
section
variable{g:G}{n:Nat}{a:aE}{K:cj aE}{p:ew}{fl:List Nat}{r:Nat}{u:gD}{f:bF}{L:List (Nat×bt)}
theorem avE{α:Type}{A:h3 α}{a:α}{K:cj α}{k B:Int}(cy:1<=B/\B<1000)(ah:∀n' x,n<=n'->0<=x/\x<B->K (.int .i64 x) g n' a):aR A bA 158 [.int .u64 k,.int .i64 B] g n a K:=by
 have c1:¬B<1:=I
 have dA:IntKind.wrap .u64 B=B:=wrap_u64 I I
 have c2:(B==0)=false:=by simp;omega
 have eu:¬B=0:=I
 refine bE i158 fun N aF=>?_
 refine fG aul (cc c1 dA c2 eu) ?_
 apply aF
 refine a6 i158.eq_1 ?_
 intro az
 have a5:0<=IntKind.wrap .u64 (k*11400714819323198485):=(vd _).1
 have J:0<=(IntKind.wrap .u64 (k*11400714819323198485)).fdiv (2 ^ min 32 IntKind.u64.bits):=Int.fdiv_nonneg a5 (by decide)
 have U:=Int.tmod_nonneg B J
 have aq:=Int.tmod_lt_of_pos ((IntKind.wrap .u64 (k*11400714819323198485)).fdiv (2 ^ min 32 IntKind.u64.bits)) (I:0<B)
 rw[wrap_i64 I I]
 exact .all (ah _ _ az ⟨U,aq⟩)
theorem QD{z6:V}{k:Int}(aV:g r=some (.al false f.l))(aj:f.x= .ptr p.aP 0)(aB:g p.aP=some (gn p a.an a.ar))(ap:bm g n)(bp:p.aP≠r)(hU:0<=k/\k<1000)(af:z6.cell=true)(g2:z6.cells=[z6])(nE:z6.known=true)
 (ah:∀g' n' dd c1 c2 t,n<=n'->Own g' [(r,.al false {f with room:=.int .i64 k,next:=.fn (.func 221) [] [.ptr dd 0,.ptr c1 0,.ptr c2 0]}.l),(dd,.al false [.ptr t 0]),(c1,.al false [z6]),(c2,.al false [.ptr r 0]),(t,lc a.an p.R (bW k) 0 (.fn (.func 211) [.ptr t 0] []))]->n<=dd/\n<=c1/\n<=c2/\n<=t->(∀b,b<n->b≠r->g' b=g b)->K (.bN []) g' n' a):
 aR ct bA 157 [.ptr r 0,.int .i64 k,z6] g n a K:=by
 have cV:=ap _ _ aV
 have da:=ap _ _ aB
 have eV:=aB
 simp only[gn]at eV
 have aD:(r=p.aP)=False:=eq_false fun e=>bp e.symm
 have aJ:(p.aP=r)=False:=eq_false bp
 refine bE i157 fun N aF=>?_
 refine aL IE (bs aV eV aj af g2 nE @cK aD aJ (ag (I:r<n)) (ag (I:p.aP<n)) (cc (ag (I:n<n+2)) (ag (I:n+1<n+2)) (ag (I:r<n+2)) (ag (I:p.aP<n+2)))) ?_
 refine LJ hU fun n' az=>?_
 intro dm
 refine aL (aN adx.eq_1 IE) (bs aV eV aj af g2 nE @cK aD aJ (ag (I:r<n)) (ag (I:p.aP<n)) (cc (ag (I:n<n+2)) (ag (I:n+1<n+2)) (ag (I:r<n+2)) (ag (I:p.aP<n+2)))) ?_
 refine dO fun cf=>BY cf fun ba aT cB j3 cQ=>?_
 intro jz
 have kZ:ba n=some (.al false [.ptr r 0]):=by rw[cQ n I];exact dX
 have QA:ba (n+1)=some (.al false [z6]):=by rw[cQ (n+1) I];exact dX
 have k0:ba r=some (.al false f.l):=by rw[cQ r I];exact bc aV
 have ex:ba p.aP=some (gn p a.an a.ar):=by rw[cQ p.aP I];exact bc aB
 have dC:kB (n+2) 23 ba:=kB.b6 (of_eq_true A7) fun j ax=>cQ (n+2+j) I
 refine⟨dC,?_⟩
 refine aL (aN adw.eq_1 IE) (bs dC kZ QA k0 af g2 nE @cK aD aJ (ag (I:r<n)) (eW (ag (I:p.aP<n)) (ag (I:n<n+2)) (ag (I:n+1<n+2)) (ag (I:r<n+2)) (ag (I:p.aP<n+2)))) ?_
 apply aF
 refine a6 i157.eq_1 ?_
 intro _
 refine .all (ah _ _ (n+23) (n+1) n n' I ⟨?_,?_⟩ ⟨I,I,I,I⟩ fun b ad bI=>?_)
 .exact yn (eW kZ QA k0 j3 lc.eq_1)
 .exact Ij
 .have c4:(r=b)=False:=eq_false fun e=>bI e.symm
  exact bc (aN c4 (cQ b I))
end
