/- Part of the proof of BatchOnce, for every input. -/
import Derived.Test.YtobokeclhlbnmaaGreatT4
set_option linter.all false
namespace Go.Proofs.Run
open Go Go.Abs
attribute [local irreducible] b9 cI cr cg aR
set_option maxRecDepth 100000
set_option maxHeartbeats 4000000
section
theorem x0{β aJF:Type}{f:β->aJF}:∀{l:List β},(l.map f).Nodup->∀{x y:β},x∈l->y∈l->f x=f y->x=y
 |[],_,x,y,aj,_,_=>by simp at aj
 |z::l,az,x,y,aj,ai,e=>by
  simp only[List.map_cons,List.nodup_cons]at az
  rcases List.mem_cons.1 aj with rfl|gR<;>rcases List.mem_cons.1 ai with rfl|uM
  .rfl
  .exact absurd (e▸List.mem_map_of_mem uM) az.1
  .exact absurd (e▸List.mem_map_of_mem gR) az.1
  .exact x0 az.2 gR uM e
def words(l:List Int):List V:=l.map (V.int .u64)
theorem iS(l:List Int):(words l).length=l.length:=by simp[words]
theorem Ic{l:List Int}{i:Nat}{w:Int}(h:l[i]? =some w):(words l)[i]? =some (.int .u64 w):=by simp[words,h]
theorem aI'(l:List Int)(i:Nat)(w:Int):(words l).set i (.int .u64 w)=words (l.set i w):=by simp[words,List.map_set]
def dZ(w:Int):Prop:=0<=w/\w<18446744073709551616
structure gY where
 h:Int
 b:Nat
 ws:List Int
structure ck where
 live:List gY
 made:Int
 room:Int
 count:Int
 ry:Int
def qn(r:gY):V×V:=(.int .i64 r.h,.slice r.b 0 r.ws.length r.ws.length 1)
def ck.cells(s:ck)(lb:Nat):List V:=[.map lb,.int .i64 s.made,.int .i64 s.room,.int .i64 s.count,.int .i64 s.ry]
structure gw(g:G)(an lb:Nat)(s:ck):Prop where
 hm:g an=some (.al false (s.cells lb))
 aA:g lb=some (.mp false (s.live.map qn))
 ak:∀r∈s.live,g r.b=some (.al false (words r.ws))
 dc:(s.live.map (·.b)).Nodup
 q3:(s.live.map (·.h)).Nodup
 tM:∀r∈s.live,∀w∈r.ws,dZ w
 pos:∀r∈s.live,0<r.ws.length
 cap:0<=s.room/\s.room+(s.live.map fun r=>(r.ws.length:Int)).sum<=65536
 az:∀r∈s.live,0<r.h/\r.h<=s.made
def ck.tick(s:ck):ck:={s with count:=IntKind.wrap .i64 (s.count+1)}
def ck.put(s:ck)(h i v:Int):ck:={s.tick with live:=s.live.map fun r=>if r.h=h then{r with ws:=r.ws.set i.toNat v}else r}
section
variable{g:G}{an lb:Nat}{s:ck}
theorem gw.q0(h:gw g an lb s):(an=lb)=False:=by
 simp only[eq_iff_iff,iff_false]
 intro e;have J:=h.hm;rw[e,h.aA]at J;simp at J
theorem gw.mm(h:gw g an lb s):(lb=an)=False:=by
 have:=h.q0
 simp only[eq_iff_iff,iff_false]at this |-
 exact fun e=>this e.symm
theorem gw.Cv(h:gw g an lb s){r:gY}(ak:r∈s.live):(r.b=an)=False:=by
 simp only[eq_iff_iff,iff_false]
 intro e;have J:=h.ak r ak;rw[e,h.hm]at J
 have U:=h.pos r ak
 cases hw:r.ws with
 |nil=>rw[hw]at U;simp at U
 |cons w l=>rw[hw]at J;simp[ck.cells,words]at J
theorem gw.Hf(h:gw g an lb s){r:gY}(ak:r∈s.live):(an=r.b)=False:=by
 have:=h.Cv ak
 simp only[eq_iff_iff,iff_false]at this |-
 exact fun e=>this e.symm
theorem gw.bl(h:gw g an lb s){r:gY}(ak:r∈s.live):(r.b=lb)=False:=by
 simp only[eq_iff_iff,iff_false]
 intro e;have J:=h.ak r ak;rw[e,h.aA]at J;simp at J
theorem gw.xU(h:gw g an lb s){r:gY}(ak:r∈s.live):(lb=r.b)=False:=by
 have:=h.bl ak
 simp only[eq_iff_iff,iff_false]at this |-
 exact fun e=>this e.symm
theorem JN{live:List gY}(az:(live.map (·.h)).Nodup){r:gY}(ak:r∈live):kF (.int .i64 r.h) (live.map qn)=some (some (.slice r.b 0 r.ws.length r.ws.length 1)):=by
 simp only[kF]
 rw[if_pos (by simp[l1,qn])]
 congr 1
 induction live with
 |nil=>simp at ak
 |cons x l c0=>
  simp only[List.map_cons,List.nodup_cons]at az
  simp only[List.map_cons,qn,kG,l1,if_true]
  rcases List.mem_cons.1 ak with e|ke
  .subst e;simp
  .have bp:¬r.h=x.h:=fun e=>az.1 (e▸List.mem_map_of_mem ke)
   rw[if_neg (by simpa using bp)]
   exact c0 az.2 ke
theorem axC{live:List gY}{h:Int}(az:∀r∈live,r.h≠h):kF (.int .i64 h) (live.map qn)=some none:=by
 simp only[kF]
 rw[if_pos (by simp[l1,qn])]
 congr 1
 induction live with
 |nil=>rfl
 |cons x l c0=>
  simp only[List.map_cons,qn,kG,l1,if_true]
  have:=az x aM
  rw[if_neg (by simpa using fun e:h=x.h=>this e.symm)]
  exact c0 fun r ak=>az r (by simp[ak])
theorem gw.put{g g':G}(hm:gw g an lb s){r:gY}(ak:r∈s.live){i v:Int}(hv:dZ v)(J:g' an=some (.al false (s.tick.cells lb)))(U:g' r.b=some (.al false (words (r.ws.set i.toNat v))))(aq:∀b,b≠an->b≠r.b->g' b=g b):gw g' an lb (s.put r.h i v):=by
 have inj:∀x∈s.live,∀y∈s.live,x.h=y.h->x=y:=by
  intro x aj y ai e
  exact x0 hm.q3 aj ai e
 refine⟨J,?_,?_,?_,?_,?_,?_,?_,?_⟩
 .have e:=aq lb (by have:=hm.mm;simp at this;exact this) (by have:=hm.xU ak;simp at this;exact this)
  rw[e,hm.aA]
  simp only[ck.put,List.map_map]
  congr 2
  apply List.map_congr_left
  intro x aj
  simp only[Function.comp,qn]
  split<;>simp
 .intro x aj
  simp only[ck.put,List.mem_map]at aj
  obtain⟨y,ai,rfl⟩:=aj
  split
  .rename_i e
   have:=inj y ai r ak e
   subst this;exact U
  .rename_i e
   have Ll:y.b≠r.b:=fun eE=>e (congrArg gY.h (x0 hm.dc ai ak eE))
   rw[aq y.b (by have:=hm.Cv ai;simp at this;exact this) Ll]
   exact hm.ak y ai
 .have:(s.put r.h i v).live.map (·.b)=s.live.map (·.b):=by
   simp only[ck.put,List.map_map]
   apply List.map_congr_left
   intro x aj;simp only[Function.comp];split<;>rfl
  rw[this];exact hm.dc
 .have:(s.put r.h i v).live.map (·.h)=s.live.map (·.h):=by
   simp only[ck.put,List.map_map]
   apply List.map_congr_left
   intro x aj;simp only[Function.comp];split<;>rfl
  rw[this];exact hm.q3
 .intro x aj
  simp only[ck.put,List.mem_map]at aj
  obtain⟨y,ai,rfl⟩:=aj
  split
  .intro w hw
   rcases List.mem_or_eq_of_mem_set hw with h|h
   .exact hm.tM y ai w h
   .exact h▸hv
  .exact hm.tM y ai
 .intro x aj
  simp only[ck.put,List.mem_map]at aj
  obtain⟨y,ai,rfl⟩:=aj
  split
  .simpa using hm.pos y ai
  .exact hm.pos y ai
 .have:(s.put r.h i v).live.map (fun r=>(r.ws.length:Int))=s.live.map fun r=>(r.ws.length:Int):=by
   simp only[ck.put,List.map_map]
   apply List.map_congr_left
   intro x aj;simp only[Function.comp];split<;>simp
  rw[this];exact hm.cap
 .intro x aj
  simp only[ck.put,List.mem_map]at aj
  obtain⟨y,ai,rfl⟩:=aj
  split<;>exact hm.az y ai
theorem gw.b6{g':G}(hm:gw g an lb s)(J:g' an=g an)(U:g' lb=g lb)(aq:∀r∈s.live,g' r.b=g r.b):gw g' an lb s:=
 ⟨by rw[J,hm.hm],by rw[U,hm.aA],fun r ak=>by rw[aq r ak];exact hm.ak r ak,hm.dc,hm.q3,hm.tM,hm.pos,hm.cap,hm.az⟩
end
def gy(a b:Int):Int:=IntKind.wrap .u64 ((BitVec.ofInt 64 a&&& BitVec.ofInt 64 b).toNat)
def BM(a b:Int):Int:=IntKind.wrap .u64 ((BitVec.ofInt 64 a |||BitVec.ofInt 64 b).toNat)
def yl(a b:Int):Int:=IntKind.wrap .u64 ((BitVec.ofInt 64 a ^^^ BitVec.ofInt 64 b).toNat)
def xc(a b:Int):Int:=IntKind.wrap .u64 ((BitVec.ofInt 64 a&&& ~~~ BitVec.ofInt 64 b).toNat)
def rb(w m v:Int):Int:=BM (xc w m) (gy v m)
variable{α:Type}{A:h3 α}{g:G}{n:Nat}{a:α}{K:cj α}
theorem NE{w m v:Int}(h:∀n',n<=n'->K (.int .u64 (rb w m v)) g n' a):aR A bA 217 [.int .u64 w,.int .u64 m,.int .u64 v] g n a K:=by
 refine bE i217 fun N aF=>?_
 refine dl auw ?_
 apply aF
 refine a6 i217.eq_1 ?_
 exact fun az=>.all (h _ az)
theorem FG{an lb:Nat}{s:ck}(hm:gw g an lb s){r:gY}(ak:r∈s.live){i w:Int}(aC:0<=i)(hw:r.ws[i.toNat]? =some w){id:FuncId}{first cap:List V}{v:Int}(hv:dZ v)
 (azt:∀g' n' (K:cj α),n<=n'->(∀b,b≠an->g' b=g b)->(∀Hh,n'<=Hh->K (.int .u64 v) g' Hh a)->aR A bA id (first++[.int .u64 w]++cap) g' n' a K)
 (h:∀g' n',n<=n'->gw g' an lb (s.put r.h i v)->(∀b,b≠an->b≠r.b->g' b=g b)->K (.bN [.int .u64 w,.bool true]) g' n' a):
 aR A bA 214 [.ptr an 0,.int .i64 r.h,.int .i64 i,.bool true,.fn (.func id) first cap] g n a K:=by
 have hlen:i.toNat<r.ws.length:=by
  rcases Nat.lt_or_ge i.toNat r.ws.length with h|h
  .exact h
  .rw[List.getElem?_eq_none h]at hw;simp at hw
 have nb:=hm.hm
 have oa:=hm.aA
 have qW:=hm.ak r ak
 have AY:=JN hm.q3 ak
 have ap:¬i<0:=I
 have Gj:¬(r.ws.length:Int)<=i:=I
 have RG:i< (r.ws.length:Int):=I
 have hb:=Ic hw
 have p':i.toNat+1<=(words r.ws).length:=by rw[iS];omega
 simp only[ck.cells]at nb
 refine bE i214 fun N aF=>?_
 refine aL OH (bs nb oa qW hm.q0 (hm.Cv ak) (hm.Hf ak) (hm.xU ak) AY ap Gj aC (aN RG hb)) ?_
 refine azt _ _ _ (Nat.le_refl _) (fun b ad=>?_) fun n' oF=>?_
 .rw[bJ,if_neg (fun e=>ad e.symm)]
 .intro cf
  refine aL (aN adL.eq_1 OH) (kw nb oa qW hm.q0 (hm.Cv ak) (hm.Hf ak) (hm.xU ak) aC RG p' @aI') ?_
  apply aF
  refine a6 i214.eq_1 ?_
  intro _
  refine .all (h _ _ oF (hm.put ak hv ?_ ?_ fun b n9 bI=>?_) fun b n9 bI=>?_)
  .exact bD (cw (hm.Cv ak) ck.cells.eq_1 ck.tick.eq_1)
  .exact dW
  .rw[bJ,if_neg (fun e=>bI e.symm),bJ,if_neg (fun e=>n9 e.symm)]
  .rw[bJ,if_neg (fun e=>bI e.symm),bJ,if_neg (fun e=>n9 e.symm)]
end
section
variable{α:Type}{A:h3 α}{g:G}{n:Nat}{a:α}{K:cj α}{an lb:Nat}{s:ck}
theorem aHA{l:List Int}{i:Nat}{w:Int}(h:l[i]? =some w):l.set i w=l:=by
 apply List.ext_getElem?
 intro j
 rw[List.getElem?_set]
 split
 .rename_i e;subst e
  split
  .exact h.symm
  .rename_i az;rw[List.getElem?_eq_none I]
 .rfl
theorem ck.aEM(hm:gw g an lb s){r:gY}(ak:r∈s.live){i w:Int}(hw:r.ws[i.toNat]? =some w):s.put r.h i w=s.tick:=by
 simp only[ck.put]
 have:s.live.map (fun x=>if x.h=r.h then{x with ws:=x.ws.set i.toNat w}else x)=s.live:=by
  conv=>rhs;rw[<-List.map_id s.live]
  apply List.map_congr_left
  intro x aj
  split
  .rename_i e
   have:=x0 hm.q3 aj ak e
   subst this
   rw[aHA hw];rfl
  .rfl
 rw[this];rfl
theorem Tm(hm:gw g an lb s){r:gY}(ak:r∈s.live){i:Nat}{w:Int}(hw:r.ws[i]? =some w):dZ w:=hm.tM r ak w (List.mem_of_getElem? hw)
theorem vd(x:Int):dZ (IntKind.wrap .u64 x):=by
 simp only[IntKind.wrap,IntKind.signed,IntKind.bits,Bool.false_eq_true,false_and,if_false,dZ]
 exact⟨Int.emod_nonneg _ (by decide),Int.emod_lt_of_pos _ (by decide)⟩
theorem aBx{w:Int}(h:∀n',n<=n'->K (.int .u64 w) g n' a):aR A bA 218 ([]++[.int .u64 w]++[]) g n a K:=by
 refine bE i218 fun N aF=>?_
 refine dl auy ?_
 apply aF
 refine a6 i218.eq_1 ?_
 exact fun az=>.all (h _ az)
theorem aC2(hm:gw g an lb s){r:gY}(ak:r∈s.live){i w:Int}(aC:0<=i)(hw:r.ws[i.toNat]? =some w)
 (h:∀g' n',n<=n'->gw g' an lb s.tick->(∀b,b≠an->b≠r.b->g' b=g b)->K (.bN [.int .u64 w,.bool true]) g' n' a):
 aR A bA 155 [.ptr an 0,.int .i64 r.h,.int .i64 i] g n a K:=by
 refine bE i155 fun N aF=>?_
 refine dl Ou ?_
 refine FG hm ak aC hw (Tm hm ak hw) (fun g' n' K az _ h=>aBx h) fun g' n' az dK aw=>?_
 intro cf
 rw[ck.aEM hm ak hw]at dK
 refine dl (aN adv.eq_1 Ou) ?_
 apply aF
 refine a6 i155.eq_1 ?_
 exact fun _=>.all (h _ _ az dK aw)
theorem aH3{b1 b2:Nat}{w m v:Int}(J:g b1=some (.al false [.int .u64 m]))(U:g b2=some (.al false [.int .u64 v]))(h:∀n',n<=n'->K (.int .u64 (rb w m v)) g n' a):aR A bA 352 ([]++[.int .u64 w]++[.ptr b1 0,.ptr b2 0]) g n a K:=by
 refine bE i352 fun N aF=>?_
 refine aL O7 (aN J U) ?_
 refine NE fun n' az=>?_
 intro cf
 refine dl (aN ad6.eq_1 O7) ?_
 apply aF
 refine a6 i352.eq_1 ?_
 exact fun _=>.all (h _ az)
theorem ND(w m v:Int):dZ (rb w m v):=vd _
theorem aH2(hm:gw g an lb s)(ap:bm g n){r:gY}(ak:r∈s.live){i w m v:Int}(aC:0<=i)(hw:r.ws[i.toNat]? =some w)
 (h:∀g' n',n<=n'->gw g' an lb (s.put r.h i (rb w m v))->(∀b,b<n->b≠an->b≠r.b->g' b=g b)->K (.bN [.int .u64 w,.bool true]) g' n' a):
 aR A bA 346 [.ptr an 0,.int .i64 r.h,.int .i64 i,.int .u64 m,.int .u64 v] g n a K:=by
 have kN:=ap _ _ hm.hm
 have mR:=ap _ _ hm.aA
 refine bE i346 fun N aF=>?_
 refine dl O5 ?_
 have hF:gw (a1 (a1 g n (.al false [.int .u64 m])) (n+1) (.al false [.int .u64 v])) an lb s:=by
  refine⟨?_,?_,fun x aj=>?_,hm.dc,hm.q3,hm.tM,hm.pos,hm.cap,hm.az⟩
  .exact bD (cw (dF kN) (gS kN) hm.hm)
  .exact bD (cw (dF mR) (gS mR) hm.aA)
  .have da:=ap _ _ (hm.ak x aj)
   exact bD (cw (dF da) (gS da) (hm.ak x aj))
 have v_:=ap _ _ (hm.ak r ak)
 refine FG hF ak aC hw (ND w m v) (fun g' n' K az aw h=>aH3 (b1:=n) (b2:=n+1) ?_ ?_ h) fun g' n' az dK aw=>?_
 .rw[aw n I];exact dW
 .rw[aw (n+1) I];exact dW
 intro cf
 refine dl (aN ad1.eq_1 O5) ?_
 apply aF
 refine a6 i346.eq_1 ?_
 refine fun _=>.all (h _ _ I dK fun b ad n9 bI=>?_)
 rw[aw b n9 bI,bJ,if_neg I,bJ,if_neg I]
theorem aDv(hm:gw g an lb s)(ap:bm g n){r:gY}(ak:r∈s.live){i w m v:Int}(aC:0<=i)(hw:r.ws[i.toNat]? =some w)
 (h:∀g' n',n<=n'->gw g' an lb (s.put r.h i (rb w m v))->(∀b,b<n->b≠an->b≠r.b->g' b=g b)->K (.bool true) g' n' a):
 aR A bA 323 [.ptr an 0,.int .i64 r.h,.int .i64 i,.int .u64 m,.int .u64 v] g n a K:=by
 refine bE i323 fun N aF=>?_
 refine dl OY ?_
 refine aH2 hm ap ak aC hw fun g' n' az dK aw=>?_
 intro cf
 refine dl (aN adX.eq_1 OY) ?_
 apply aF
 refine a6 i323.eq_1 ?_
 exact fun _=>.all (h _ _ az dK aw)
theorem aIL{w v:Int}(hv:dZ v):rb w 18446744073709551615 v=v:=by
 have e:(BitVec.ofInt 64 18446744073709551615:BitVec 64)=BitVec.allOnes 64:=by decide
 simp only[rb,xc,gy,BM,e]
 have a5:IntKind.wrap .u64 ((BitVec.ofInt 64 w&&& ~~~ BitVec.allOnes 64).toNat:Int)=0:=by simp;rfl
 have J:IntKind.wrap .u64 ((BitVec.ofInt 64 v&&& BitVec.allOnes 64).toNat:Int)=v:=by
  rw[BitVec.and_allOnes]
  have:((BitVec.ofInt 64 v).toNat:Int)=v:=by
   rw[BitVec.toNat_ofInt]
   have J:=hv.1
   have U:=hv.2
   omega
  rw[this]
  exact wrap_u64 hv.1 hv.2
 rw[a5,J]
 have U:((BitVec.ofInt 64 0 |||BitVec.ofInt 64 v).toNat:Int)=v:=by
  have:(BitVec.ofInt 64 0:BitVec 64)=0#64:=by decide
  rw[this,BitVec.zero_or,BitVec.toNat_ofInt]
  have J:=hv.1
  have U:=hv.2
  omega
 rw[U]
 exact wrap_u64 hv.1 hv.2
theorem aHX(hm:gw g an lb s)(ap:bm g n){r:gY}(ak:r∈s.live){i w v:Int}(aC:0<=i)(hw:r.ws[i.toNat]? =some w)(hv:dZ v)
 (h:∀g' n',n<=n'->gw g' an lb (s.put r.h i v)->(∀b,b<n->b≠an->b≠r.b->g' b=g b)->K (.bool true) g' n' a):
 aR A bA 281 [.ptr an 0,.int .i64 r.h,.int .i64 i,.int .u64 v] g n a K:=by
 refine bE i281 fun N aF=>?_
 refine dl OR ?_
 refine aDv hm ap ak aC hw fun g' n' az dK aw=>?_
 intro cf
 rw[aIL hv]at dK
 refine dl (aN adR.eq_1 OR) ?_
 apply aF
 refine a6 i281.eq_1 ?_
 exact fun _=>.all (h _ _ az dK aw)
def FH(a b:Int):Int:=IntKind.wrap .u64 (a+b)
theorem ava{x y:Int}(h:∀n',n<=n'->K (.bN [.int .u64 (FH x y),.bool true]) g n' a):aR A bA 268 [.int .i64 0,.int .u64 64,.int .u64 x,.int .u64 y] g n a K:=by
 refine bE i268 fun N aF=>?_
 refine dl auG ?_
 apply aF
 refine a6 i268.eq_1 ?_
 exact fun az=>.all (h _ az)
theorem avb{x y:Int}(h:∀n',n<=n'->K (.bN [.int .u64 (FH x y),.bool true]) g n' a):aR A bA 216 [.int .i64 0,.bool true,.int .u64 x,.int .u64 y] g n a K:=by
 refine bE i216 fun N aF=>?_
 refine dl OI ?_
 refine ava fun n' az=>?_
 intro cf
 refine dl (aN adO.eq_1 OI) ?_
 apply aF
 refine a6 i216.eq_1 ?_
 exact fun _=>.all (h _ az)
def fy(w m v:Int):Int:=rb w m (FH (gy w m) (gy v m))
theorem axy{b1 b2 b3:Nat}{w m v:Int}(J:g b1=some (.al false [.int .i64 0]))(U:g b2=some (.al false [.int .u64 m]))(aq:g b3=some (.al false [.int .u64 v]))(h:∀n',n<=n'->K (.int .u64 (fy w m v)) g n' a):aR A bA 215 ([]++[.int .u64 w]++[.ptr b1 0,.ptr b2 0,.ptr b3 0]) g n a K:=by
 refine bE i215 fun N aF=>?_
 refine aL II (cw J U aq) ?_
 refine avb fun n' az=>?_
 intro cf
 refine aL (aN adM.eq_1 II) (cw J U aq) ?_
 refine NE fun aT cB=>?_
 intro cf
 refine dl (aN adN.eq_1 II) ?_
 apply aF
 refine a6 i215.eq_1 ?_
 exact fun _=>.all (h _ I)
theorem QP(hm:gw g an lb s)(ap:bm g n){r:gY}(ak:r∈s.live){i w m v:Int}(aC:0<=i)(hw:r.ws[i.toNat]? =some w)
 (h:∀g' n',n<=n'->gw g' an lb (s.put r.h i (fy w m v))->(∀b,b<n->b≠an->b≠r.b->g' b=g b)->K (.bN [.int .u64 w,.bool true]) g' n' a):
 aR A bA 153 [.ptr an 0,.int .i64 r.h,.int .i64 i,.int .i64 0,.int .u64 m,.int .u64 v] g n a K:=by
 have kN:=ap _ _ hm.hm
 have mR:=ap _ _ hm.aA
 refine bE i153 fun N aF=>?_
 refine dl Ot ?_
 have hF:gw (a1 (a1 (a1 g n (.al false [.int .i64 0])) (n+1) (.al false [.int .u64 m])) (n+2) (.al false [.int .u64 v])) an lb s:=by
  refine⟨?_,?_,fun x aj=>?_,hm.dc,hm.q3,hm.tM,hm.pos,hm.cap,hm.az⟩
  .exact bD (cw (dF kN) (gS kN) hm.hm)
  .exact bD (cw (dF mR) (gS mR) hm.aA)
  .have da:=ap _ _ (hm.ak x aj)
   exact bD (cw (dF da) (gS da) (hm.ak x aj))
 have v_:=ap _ _ (hm.ak r ak)
 refine FG (v:=fy w m v) hF ak aC hw (ND _ _ _) (fun g' n' K az aw h=>axy (b1:=n) (b2:=n+1) (b3:=n+2) ?_ ?_ ?_ h) fun g' n' az dK aw=>?_
 .rw[aw n I];exact dW
 .rw[aw (n+1) I];exact dW
 .rw[aw (n+2) I];exact dW
 intro cf
 refine dl (aN adu.eq_1 Ot) ?_
 apply aF
 refine a6 i153.eq_1 ?_
 refine fun _=>.all (h _ _ I dK fun b ad n9 bI=>?_)
 rw[aw b n9 bI,bJ,if_neg I,bJ,if_neg I,bJ,if_neg I]
def o1(w m o v:Int):Int:=if gy (yl w o) m=0 then rb w m v else w
theorem vr(a b:Int):IntKind.wrap .u64 ((BitVec.ofInt (IntKind.bits .u64) a&&& BitVec.ofInt (IntKind.bits .u64) b).toNat)=gy a b:=by unfold gy;rfl
theorem as0(a b:Int):IntKind.wrap .u64 ((BitVec.ofInt (IntKind.bits .u64) a ^^^ BitVec.ofInt (IntKind.bits .u64) b).toNat)=yl a b:=by unfold yl;rfl
theorem awe{b1 b2 b3:Nat}{w m o v:Int}(J:g b1=some (.al false [.int .u64 o]))(U:g b2=some (.al false [.int .u64 m]))(aq:g b3=some (.al false [.int .u64 v]))(h:∀n',n<=n'->K (.int .u64 (o1 w m o v)) g n' a):aR A bA 347 ([]++[.int .u64 w]++[.ptr b1 0,.ptr b2 0,.ptr b3 0]) g n a K:=by
 refine bE i347 fun N aF=>?_
 by_cases bB:gy (yl w o) m=0
 .have af:o1 w m o v=rb w m v:=if_pos bB
  rw[af]at h
  refine aL IR (d' J U aq @vr @as0 bB) ?_
  refine NE fun n' az=>?_
  intro cf
  refine dl (aN ad2.eq_1 IR) ?_
  apply aF
  refine a6 i347.eq_1 ?_
  exact fun _=>.all (h _ az)
 .have af:o1 w m o v=w:=if_neg bB
  rw[af]at h
  refine aL IR (d' J U aq @vr @as0 bB) ?_
  apply aF
  refine a6 i347.eq_1 ?_
  exact fun az=>.all (h _ az)
theorem awa{w:Int}(hw:dZ w)(m o v:Int):dZ (o1 w m o v):=by
 unfold o1;split
 .exact ND _ _ _
 .exact hw
theorem awb(hm:gw g an lb s)(ap:bm g n){r:gY}(ak:r∈s.live){i w m o v:Int}(aC:0<=i)(hw:r.ws[i.toNat]? =some w)
 (h:∀g' n',n<=n'->gw g' an lb (s.put r.h i (o1 w m o v))->(∀b,b<n->b≠an->b≠r.b->g' b=g b)->K (.bN [.int .u64 w,.bool true]) g' n' a):
 aR A bA 325 [.ptr an 0,.int .i64 r.h,.int .i64 i,.int .u64 m,.int .u64 o,.int .u64 v] g n a K:=by
 have kN:=ap _ _ hm.hm
 have mR:=ap _ _ hm.aA
 refine bE i325 fun N aF=>?_
 refine dl OZ ?_
 have hF:gw (a1 (a1 (a1 g n (.al false [.int .u64 m])) (n+1) (.al false [.int .u64 o])) (n+2) (.al false [.int .u64 v])) an lb s:=by
  refine⟨?_,?_,fun x aj=>?_,hm.dc,hm.q3,hm.tM,hm.pos,hm.cap,hm.az⟩
  .exact bD (cw (dF kN) (gS kN) hm.hm)
  .exact bD (cw (dF mR) (gS mR) hm.aA)
  .have da:=ap _ _ (hm.ak x aj)
   exact bD (cw (dF da) (gS da) (hm.ak x aj))
 have v_:=ap _ _ (hm.ak r ak)
 refine FG (v:=o1 w m o v) hF ak aC hw (awa (Tm hm ak hw) _ _ _) (fun g' n' K az aw h=>awe (b1:=n+1) (b2:=n) (b3:=n+2) ?_ ?_ ?_ h) fun g' n' az dK aw=>?_
 .rw[aw (n+1) I];exact dW
 .rw[aw n I];exact dW
 .rw[aw (n+2) I];exact dW
 intro cf
 refine dl (aN adZ.eq_1 OZ) ?_
 apply aF
 refine a6 i325.eq_1 ?_
 refine fun _=>.all (h _ _ I dK fun b ad n9 bI=>?_)
 rw[aw b n9 bI,bJ,if_neg I,bJ,if_neg I,bJ,if_neg I]
theorem aDz(hm:gw g an lb s)(ap:bm g n){r:gY}(ak:r∈s.live){i w:Int}(aC:0<=i)(hw:r.ws[i.toNat]? =some w)
 (h:∀g' n',n<=n'->gw g' an lb (s.put r.h i (fy w 18446744073709551615 1))->(∀b,b<n->b≠an->b≠r.b->g' b=g b)->K (.bN [.int .u64 w,.bool true]) g' n' a):
 aR A bA 264 [.ptr an 0,.int .i64 r.h,.int .i64 i] g n a K:=by
 refine bE i264 fun N aF=>?_
 refine dl OP ?_
 refine QP hm ap ak aC hw fun g' n' az dK aw=>?_
 intro cf
 refine dl (aN adQ.eq_1 OP) ?_
 apply aF
 refine a6 i264.eq_1 ?_
 exact fun _=>.all (h _ _ az dK aw)
end
section
variable{α:Type}{A:h3 α}{g:G}{n:Nat}{a:α}{K:cj α}{an lb:Nat}{s:ck}
theorem aHy{live:List gY}{h:Int}(az:∀r∈live,r.h≠h)(v:V):nR (.int .i64 h) v (live.map qn)=live.map qn++[(.int .i64 h,v)]:=by
 induction live with
 |nil=>rfl
 |cons x l c0=>
  have:=az x aM
  simp only[List.map_cons,qn,nR,l1,if_true]
  rw[if_neg (by simpa using fun e:h=x.h=>this e.symm)]
  rw[c0 fun r ak=>az r (by simp[ak])];rfl
theorem aw0{live:List gY}(az:(live.map (·.h)).Nodup){r:gY}(ak:r∈live):mE (.int .i64 r.h) (live.map qn)=(live.filter fun x=>x.h≠r.h).map qn:=by
 induction live with
 |nil=>simp at ak
 |cons x l c0=>
  simp only[List.map_cons,List.nodup_cons]at az
  simp only[List.map_cons,qn,mE,l1,if_true]
  rcases List.mem_cons.1 ak with e|ke
  .subst e
   simp only[beq_self_eq_true,if_true]
   rw[List.filter_cons_of_neg aM]
   have:l.filter (fun x=>x.h≠r.h)=l:=by
    rw[List.filter_eq_self]
    intro y ai
    simpa using fun e:y.h=r.h=>az.1 (e▸List.mem_map_of_mem ai)
   rw[this]
  .have bp:¬x.h=r.h:=fun e=>az.1 (e▸List.mem_map_of_mem ke)
   rw[if_neg (by simpa using fun e:r.h=x.h=>bp e.symm),List.filter_cons_of_pos (by simpa using bp)]
   rw[c0 az.2 ke];rfl
def ck.mk'(s:ck)(k:Nat)(b:Nat):ck:={s with made:=s.made+1,room:=s.room-k,live:=s.live++[⟨s.made+1,b,List.replicate k 0⟩]}
def ck.mW(s:ck)(r:gY):ck:={s with room:=s.room+r.ws.length,live:=s.live.filter fun x=>x.h≠r.h}
theorem aF2(k:Nat):im [V.int .u64 0] k=words (List.replicate k 0):=by
 induction k with
 |zero=>rfl
 |succ k c0=>simp only[im,c0,List.replicate_succ,words,List.map_cons];rfl
theorem aDu(hm:gw g an lb s)(ap:bm g n){k:Nat}(ah:1<=k)(eJ:k<=65536)(na:0<=s.made/\s.made<1000000000)
 (J:s.room<k->∀n',n<=n'->K (.bN [.int .i64 0,.int .i64 5]) g n' a)
 (U:(k:Int)<=s.room->∀g' n' b,n<=b->b<n'->gw g' an lb (s.mk' k b)->(∀x,x<n->x≠an->x≠lb->g' x=g x)->K (.bN [.int .i64 (s.made+1),.int .i64 0]) g' n' a):
 aR A bA 145 [.ptr an 0,.int .i64 k] g n a K:=by
 have GF:∀(l:List gY),0<=(l.map fun r=>(r.ws.length:Int)).sum:=by
  intro l
  induction l with
  |nil=>simp
  |cons x l c0=>simp only[List.map_cons,List.sum_cons];omega
 have o8:0<=s.room/\s.room<1000000000:=⟨hm.cap.1,by have:=hm.cap.2;have:=GF s.live;omega⟩
 have az:∀r∈s.live,r.h<=s.made:=fun r ak=>(hm.az r ak).2
 have nb:=hm.hm
 have oa:=hm.aA
 have kN:=ap _ _ nb
 have mR:=ap _ _ oa
 have c1:¬(k:Int)<1:=I
 have c2:¬(65536:Int)< (k:Int):=I
 have eu:(0:Int)<=(k:Int):=I
 have jH:(k:Int)<=1048576:=I
 have dA:IntKind.wrap .i64 (s.made+1)=s.made+1:=wrap_i64 I I
 simp only[ck.cells]at nb
 refine bE i145 fun N aF=>?_
 by_cases ak:s.room<k
 .have m1:¬(k:Int)<=s.room:=I
  refine aL Oq (eW nb c1 c2 ak m1) ?_
  apply aF
  refine a6 i145.eq_1 ?_
  refine fun az=>?_
  exact .all (J ak _ az)
 .have m1:(k:Int)<=s.room:=I
  have h1:IntKind.wrap .i64 (s.room-k)=s.room-k:=wrap_i64 I I
  have bf:=axC (live:=s.live) (h:=s.made+1) fun r ak e=>by have:=az r ak;omega
  have K9:=aHy (live:=s.live) (h:=s.made+1) fun r ak e=>by have:=az r ak;omega
  refine aL Oq (bs nb oa c1 c2 ak m1 eu jH dA h1 hm.q0 (bs hm.mm bf K9 (dF kN) (gS kN) (dF mR) (gS mR) (tG kN) (x1 kN) (tG mR) (x1 mR) (eW (pM kN) (pM mR) @Int.le_refl @Int.toNat_natCast @aF2))) ?_
  apply aF
  refine a6 (bs i145.eq_1 hm.q0 hm.mm (dF kN) (gS kN) (dF mR) (gS mR) (tG kN) (x1 kN) (tG mR) (x1 mR) (pM kN)) ?_
  intro _
  refine .all (U m1 _ _ (n+9) I I ⟨?_,?_,?_,?_,?_,?_,?_,?_,?_⟩ ?_)
  .exact bD (gq hm.q0 hm.mm (tG kN) (dF kN) (pM kN) ck.cells.eq_1 ck.mk'.eq_1)
  .exact bD (cc ck.mk'.eq_1 @List.map_append.{0,0} qn.eq_1 @List.length_replicate.{0})
  .intro x aj
   simp only[ck.mk',List.mem_append,List.mem_singleton]at aj
   rcases aj with aj|rfl
   .have da:=ap _ _ (hm.ak x aj)
    exact bD (d' (hm.Hf aj) (hm.xU aj) (dF da) (gS da) (pM da) (hm.ak x aj))
   .exact bD (tG mR)
  .simp only[ck.mk',List.map_append,List.map_cons,List.map_nil]
   rw[List.nodup_append]
   refine⟨hm.dc,aM,fun x aj y ai=>?_⟩
   simp only[List.mem_map]at aj
   obtain⟨r,ak,rfl⟩:=aj
   have:=ap _ _ (hm.ak r ak)
   simp only[List.mem_singleton]at ai
   omega
  .simp only[ck.mk',List.map_append,List.map_cons,List.map_nil]
   rw[List.nodup_append]
   refine⟨hm.q3,aM,fun x aj y ai=>?_⟩
   simp only[List.mem_map]at aj
   obtain⟨r,ak,rfl⟩:=aj
   have:=az r ak
   simp only[List.mem_singleton]at ai
   omega
  .intro x aj
   simp only[ck.mk',List.mem_append,List.mem_singleton]at aj
   rcases aj with aj|rfl
   .exact hm.tM x aj
   .intro w hw
    rw[List.eq_of_mem_replicate hw]
    exact⟨I,I⟩
  .intro x aj
   simp only[ck.mk',List.mem_append,List.mem_singleton]at aj
   rcases aj with aj|rfl
   .exact hm.pos x aj
   .simpa using(I:0<k)
  .simp only[ck.mk',List.map_append,List.map_cons,List.map_nil,List.sum_append,List.sum_cons,List.sum_nil,List.length_replicate]
   have:=hm.cap
   omega
  .intro x aj
   simp only[ck.mk',List.mem_append,List.mem_singleton]at aj
   rcases aj with aj|rfl
   .have:=hm.az x aj
    simp only[ck.mk'];omega
   .simp only[ck.mk'];omega
  .intro x aj J U
   rw[bJ,if_neg (fun e=>U e.symm),bJ,if_neg I,xM aj,bJ,if_neg (fun e=>J e.symm),bJ,if_neg (fun e=>J e.symm)]
theorem aHI(hm:gw g an lb s){r:gY}(ak:r∈s.live)(h:∀n',n<=n'->K (.int .i64 r.ws.length) g n' a):aR A bA 327 [.ptr an 0,.int .i64 r.h] g n a K:=by
 have nb:=hm.hm
 have oa:=hm.aA
 simp only[ck.cells]at nb
 have AY:=JN hm.q3 ak
 refine bE i327 fun N aF=>?_
 refine aL auQ (cw nb oa AY) ?_
 apply aF
 refine a6 i327.eq_1 ?_
 exact fun az=>.all (h _ az)
theorem QX(hm:gw g an lb s){r:gY}(ak:r∈s.live)
 (h:∀g' n',n<=n'->gw g' an lb (s.mW r)->(∀b,b≠an->b≠lb->g' b=g b)->K (.bool true) g' n' a):aR A bA 59 [.ptr an 0,.int .i64 r.h] g n a K:=by
 have nb:=hm.hm
 have oa:=hm.aA
 simp only[ck.cells]at nb
 have AY:=JN hm.q3 ak
 have vP:=aw0 hm.q3 ak
 have GF:∀(l:List gY),0<=(l.map fun r=>(r.ws.length:Int)).sum/\∀x∈l,(x.ws.length:Int)+((l.filter fun y=>y.h≠x.h).map fun r=>(r.ws.length:Int)).sum<=(l.map fun r=>(r.ws.length:Int)).sum:=by
  intro l
  induction l with
  |nil=>simp
  |cons x l c0=>
   refine⟨by simp only[List.map_cons,List.sum_cons];have:=c0.1;omega,fun y ai=>?_⟩
   have hle:∀(p:gY->Bool),((l.filter p).map fun r=>(r.ws.length:Int)).sum<=(l.map fun r=>(r.ws.length:Int)).sum:=by
    intro p
    clear c0 ai
    induction l with
    |nil=>simp
    |cons z l aLb=>
     by_cases aB:p z=true
     .rw[List.filter_cons_of_pos aB];simp only[List.map_cons,List.sum_cons];omega
     .rw[List.filter_cons_of_neg aB];simp only[List.map_cons,List.sum_cons];omega
   rcases List.mem_cons.1 ai with rfl|uM
   .rw[List.filter_cons_of_neg aM]
    simp only[List.map_cons,List.sum_cons]
    have:=hle fun z=>decide (z.h≠y.h)
    omega
   .have U:=c0.2 y uM
    by_cases aj:x.h≠y.h
    .rw[List.filter_cons_of_pos (by simpa using aj)]
     simp only[List.map_cons,List.sum_cons];omega
    .rw[List.filter_cons_of_neg (by simpa using aj)]
     simp only[List.map_cons,List.sum_cons];omega
 have qb:=(GF s.live).2 r ak
 have mO:=(GF (s.live.filter fun x=>x.h≠r.h)).1
 have mL:=hm.cap
 have dA:IntKind.wrap .i64 (s.room+r.ws.length)=s.room+r.ws.length:=wrap_i64 I I
 refine bE i59 fun N aF=>?_
 refine aL au0 (gq nb oa AY vP dA hm.q0 hm.mm) ?_
 apply aF
 refine a6 i59.eq_1 ?_
 intro az
 refine .all (h _ _ az ⟨?_,?_,?_,?_,?_,?_,?_,?_,?_⟩ ?_)
 .exact bD (cw hm.mm ck.cells.eq_1 ck.mW.eq_1)
 .exact bD ck.mW.eq_1
 .intro x aj
  have gR:x∈s.live:=(List.mem_filter.1 aj).1
  exact bD (cw (hm.Hf gR) (hm.xU gR) (hm.ak x gR))
 .exact hm.dc.sublist (List.Sublist.map _ List.filter_sublist)
 .exact hm.q3.sublist (List.Sublist.map _ List.filter_sublist)
 .exact fun x aj=>hm.tM x (List.mem_filter.1 aj).1
 .exact fun x aj=>hm.pos x (List.mem_filter.1 aj).1
 .simp only[ck.mW];exact⟨I,I⟩
 .exact fun x aj=>hm.az x (List.mem_filter.1 aj).1
 .intro b J U
  rw[bJ,if_neg (fun e=>U e.symm),bJ,if_neg (fun e=>J e.symm)]
end
section
variable{α:Type}{A:h3 α}{g:G}{n:Nat}{a:α}{K:cj α}
structure gm where
 h:Int
 b:Nat
 ws:List Int
def ki(l:List Int):List (V×V):=l.map fun a=>(.int .i64 a,.bool true)
def ja(q:List gm):List V:=q.flatMap fun w=>[.int .i64 w.h,.map w.b]
theorem aLG(q:List gm):(ja q).length=q.length*2:=by
 induction q with
 |nil=>rfl
 |cons w q c0=>simp only[ja,List.flatMap_cons,List.length_append,List.length_cons,List.length_nil];have:=c0;simp only[ja]at this;omega
theorem ada:∀{q:List gm} {i:Nat} (h:i<q.length),(ja q)[2*i]? =some (.int .i64 q[i].h)/\(ja q)[2*i+1]? =some (.map q[i].b)
 |[],i,h=>by simp at h
 |w::q,0,h=>⟨rfl,rfl⟩
 |w::q,i+1,h=>by
  have:=ada (q:=q) (i:=i) (by simpa using h)
  have e:2*(i+1)=2*i+1+1:=I
  simp only[ja,List.flatMap_cons,List.cons_append,List.nil_append,e,List.getElem?_cons_succ,List.getElem_cons_succ]
  exact this
theorem aIt{l:List V}{i:Nat}{x y:V}(J:l[i]? =some x)(U:l[i+1]? =some y):(l.drop i).take 2=[x,y]:=by
 have aC:i+1<l.length:=by
  rcases Nat.lt_or_ge (i+1) l.length with h|h
  .exact h
  .rw[List.getElem?_eq_none h]at U;simp at U
 rw[List.drop_eq_getElem_cons I,List.drop_eq_getElem_cons aC]
 rw[List.getElem?_eq_getElem I]at J
 rw[List.getElem?_eq_getElem aC]at U
 simp only[Option.some.injEq]at J U
 simp[J,U]
theorem Mq{q:List gm}{bC:V}{fl:List Nat}(h:h6 g 2 bC q.length (ja q) fl){i:Nat}(aC:i<q.length):
 ∃b o cap,bC= .slice b o q.length cap 2/\fl=[b]/\ni g 2 true (.ptr b (o+i*2))=some (.agg [.int .i64 q[i].h,.map q[i].b]):=by
 obtain⟨b,o,cap,cells,rfl,aw,J,U,aq,rfl⟩:=h.ld I
 refine⟨b,o,cap,rfl,rfl,?_⟩
 obtain⟨eB,iT⟩:=ada aC
 rw[aq]at eB iT
 have fX:=I9 eB
 have gj:=I9 iT
 have aD:o+i*2=o+2*i:=I
 have aA:o+i*2+2<=cells.length:=I
 simp only[ni,aw,if_true,if_pos aA]
 rw[aD,aIt fX (by rw[<-gj];congr 1)]
theorem Sx{bC:V}{q:List gm}{fl:List Nat}{id:FuncId}{first cap:List V}(P F:Nat->G->Nat->α->Prop)(hlen:q.length<1000000)(a5:P 0 g n a)(av:∀i g' n' a',P i g' n' a'->h6 g' 2 bC q.length (ja q) fl)
 (od:∀i (aC:i<q.length) g' n' a' (K:cj α),n<=n'->P i g' n' a'->(∀ba aT b7,n'<=aT->P (i+1) ba aT b7->K (.bool false) ba aT b7)->(∀ba aT b7,n'<=aT->F i ba aT b7->K (.bool true) ba aT b7)->aR A bA id (first++[.agg [.int .i64 q[i].h,.map q[i].b]]++cap) g' n' a' K)
 (dy:∀g' n' a',n<=n'->P q.length g' n' a'->K (.int .i64 (-1)) g' n' a')
 (wh:∀i g' n' a',n<=n'->i<q.length->F i g' n' a'->K (.int .i64 i) g' n' a'):aR A bA 128 [bC,.fn (.func id) first cap] g n a K:=by
 have tl:=(av 0 _ _ _ a5).oI
 refine bE i128 fun N aF=>?_
 refine aL Ck tl ?_
 refine qp (fun k t g' n' a'=>∃i,k=q.length-i/\i<=q.length/\n<=n'/\P i g' n' a'/\aW t (.t 0)=bC/\aW t (.t 1)= .fn (.func id) first cap/\aW t (.t 7)= .int .i64 q.length/\aW t (.t 8)= .int .i64 i) q.length ⟨0,I,I,Nat.le_refl _,a5,dW,dW,dW,bD @Int.natCast_zero⟩ ?_
 rintro k t g' n' a' ⟨i,rfl,aC,az,aB,cZ,aD,dB,dN⟩
 by_cases ap:i<q.length
 .have af:(i:Int)< (q.length:Int):=I
  have y9:(0:Int)<=(i:Int):=I
  have dA:IntKind.wrap .i64 ((i:Int)+1)=((i+1:Nat):Int):=by rw[wrap_i64 I I];omega
  obtain⟨b,o,gG,rfl,cE,tk⟩:=Mq (av i _ _ _ aB) ap
  simp only[ni,if_true,Nat.add_assoc]at tk
  refine aL Ck (gq cZ aD dB dN af y9 @Int.toNat_natCast) ?_
  simp only[tk]
  refine od i ap g' n' a' _ az aB (fun ba aT b7 cB gQ=>?_) (fun ba aT b7 cB aV=>?_)
  .intro cf
   refine aL Ck (eW cZ aD dB dN dA) ?_
   exact⟨q.length- (i+1),I,i+1,rfl,I,I,gQ,rfl⟩
  .intro cf
   refine aL Ck (cc cZ aD dB dN) ?_
   apply aF
   refine a6 i128.eq_1 ?_
   exact fun _=>.all (wh i _ _ _ I ap aV)
 .have p8:i=q.length:=I
  subst p8
  refine aL Ck (eW cZ aD dB dN @Int.lt_irrefl) ?_
  apply aF
  refine a6 i128.eq_1 ?_
  exact fun _=>.all (dy _ _ _ I aB)
end
section
variable{α:Type}{A:h3 α}{g:G}{n:Nat}{a:α}{K:cj α}{an lb:Nat}{m:ck}
def ck.jm(m:ck)(h:Int):ck:=match m.live.find? (fun r=>r.h=h)with
 |some r=>m.mW r
 |none=>m
def ck.has(m:ck)(h:Int):Prop:=∃r∈m.live,r.h=h
def ck.cX(m:ck)(q:List gm):ck:=q.foldl (fun m w=>if w.ws=[]then m.jm w.h else m) m
def stay(q:List gm):List gm:=q.filter fun w=> !w.ws.isEmpty
theorem aeM{r:gY}(hm:gw g an lb m)(ak:r∈m.live):m.jm r.h=m.mW r:=by
 simp only[ck.jm]
 have:m.live.find? (fun x=>x.h=r.h)=some r:=by
  have J:(m.live.find? fun x=>decide (x.h=r.h)).isSome:=by
   rw[List.find?_isSome];exact⟨r,ak,aM⟩
  obtain⟨y,ai⟩:=Option.isSome_iff_exists.1 J
  have U:=List.find?_some ai
  have aq:=List.mem_of_find?_eq_some ai
  have:=x0 hm.q3 aq ak (by simpa using U)
  rw[ai,this]
 rw[this]
theorem Kf{h ay:Int}(bp:h≠ay)(bd:m.has h):(m.jm ay).has h:=by
 obtain⟨r,ak,rfl⟩:=bd
 simp only[ck.jm]
 split
 .rename_i x aj
  have U:=List.find?_some aj
  simp only[decide_eq_true_eq]at U
  exact⟨r,List.mem_filter.2 ⟨ak,by simp only[ne_eq,decide_eq_true_eq];rw[U];exact bp⟩,rfl⟩
 .exact⟨r,ak,rfl⟩
theorem aeN{h:Int}{r:gY}(ak:r∈(m.jm h).live):r∈m.live:=by
 simp only[ck.jm]at ak
 split at ak
 .exact(List.mem_filter.1 ak).1
 .exact ak
theorem aH5{ar c1 c2:Nat}{dw:V}{k:Nat}{vs:List V}{fl:List Nat}{hq:Int}{dS:Nat}{bC:V}{w:gm}
 (hm:gw g an lb m) (ap:bm g n) (bd:m.has w.h) (hr:g c1=some (.al false [.ptr ar 0])) (g2:g c2=some (.al false [dw])) (g9:h6 g 1 dw k vs fl) (ah:k<100000) (kI:g ar=some (.al false [.ptr an 0,.int .i64 hq,.map dS,bC])) (uL:g w.b=some (.mp false (ki w.ws)))
 (aH:c1≠an/\c2≠an/\ar≠an/\c2∉fl/\an∉fl/\lb∉fl/\c2≠ar/\c2≠c1/\∀r∈m.live,r.b∉fl/\r.b≠c2)
 (J:w.ws≠[]->∀n',n<=n'->K (.bool false) g n' a)
 (U:w.ws=[]->∀g' n' nC hy fl',n<=n'->gw g' an lb (m.jm w.h)->(∀b,b<n->b≠an->b≠lb->b≠c2->b∉fl->g' b=g b)->g' c2=some (.al false [nC])->h6 g' 1 nC (k+1) hy fl'->(∀b∈fl',b∈fl\/n<=b)->c2∉fl'->K (.bool true) g' n' a):
 aR A bA 58 ([]++[.agg [.int .i64 w.h,.map w.b]]++[.ptr c1 0,.ptr c2 0]) g n a K:=by
 obtain⟨d1,d2,d3,d4,d5,d6,d7,d8,d9⟩:=aH
 have G4:=ap _ _ hr
 have aCN:=ap _ _ g2
 have o':=ap _ _ kI
 have zJ:=ap _ _ uL
 have kN:=ap _ _ hm.hm
 have mR:=ap _ _ hm.aA
 refine bE i58 fun N aF=>?_
 by_cases hw:w.ws=[]
 .have ku:((ki w.ws).length:Int)=0:=by rw[hw];rfl
  refine aL IV (bs hr g2 uL (dF zJ) (gS zJ) (dF G4) (gS G4) (dF o') (gS o') kI ku @Int.lt_irrefl) ?_
  obtain⟨r,ak,Sh⟩:=bd
  rw[<-Sh]
  have hF:gw (a1 g n (.al false [V.int IntKind.i64 r.h,V.map w.b])) an lb m:=hm.b6 (by rw[bJ,if_neg I]) (by rw[bJ,if_neg I]) fun x aj=>by have:=ap _ _ (hm.ak x aj);rw[bJ,if_neg I]
  refine QX hF ak fun g' n' oF dK aw=>?_
  intro dm
  have aD:g' c2=some (.al false [dw]):=by rw[aw c2 d2 (fun e=>by rw[e,hm.aA]at g2;simp at g2),bJ,if_neg I,g2]
  have aJ:g' n=some (.al false [V.int IntKind.i64 r.h,V.map w.b]):=by rw[aw n I I,bJ,if_pos rfl]
  have azS:h6 (a1 g' n' (.al false [V.int IntKind.i64 r.h])) 1 dw k vs fl:=g9.b6 fun b ad=>by
   have:=g9.lt ap b ad
   rw[bJ,if_neg I,aw b (fun e=>d5 (e▸ad)) (fun e=>d6 (e▸ad)),bJ,if_neg I]
  have jz:bm (a1 g' n' (.al false [V.int IntKind.i64 r.h])) (n'+1):=fun b c ad=>by
   rw[bJ]at ad
   split at ad
   .omega
   .have:=dm b c ad;omega
  obtain⟨nU,ba,pC,fl',y4,hle,oc,mK,cE,_⟩:=azS.append jz (x:=.slice n' 0 1 1 1) (k:=1) (new:=[.int .i64 r.h]) (bytes:=8) (as8) rfl rfl I I
  have avJ:c2≠n':=by have:=dm _ _ aD;omega
  have bP:ba c2=some (.al false [dw]):=by rw[mK c2 I d4,bJ,if_neg (fun e=>avJ e.symm),aD]
  have aB:=oc.plain
  refine aL IV (ji aD aJ y4 bP (dF (dm _ _ aD)) (gS (dm _ _ aD)) (dF (dm _ _ aJ)) (gS (dm _ _ aJ)) aB.2.1 aB.2.2.2.2) ?_
  apply aF
  refine a6 i58.eq_1 ?_
  intro _
  have PR:c2∉fl':=fun ad=>by
   rcases cE c2 ad with h|h
   .exact d4 h
   .omega
  have aLg:=dm _ _ aD
  refine .all (U hw _ _ nU _ fl' I ?_ ?_ (by rw[bJ,if_pos rfl]) (oc.b6 fun b ad=>by rw[bJ,if_neg (fun e:c2=b=>PR (e▸ad))]) (fun b ad=>?_) PR)
  .rw[<-Sh,aeM hm ak]
   have qf:∀b c,g' b=some c->b∉fl->b≠c2->(a1 ba c2 (.al false [nU])) b=g' b:=fun b c ad aV bp=>by
    have:=dm _ _ ad
    rw[bJ,if_neg (fun e=>bp e.symm),mK b I aV,bJ,if_neg I]
   refine dK.b6 (qf _ _ dK.hm d5 (fun e=>d2 e.symm)) (qf _ _ dK.aA d6 (fun e=>by have:=dK.aA;rw[e,aD]at this;simp at this)) fun x aj=>?_
   have gR:x∈m.live:=(List.mem_filter.1 aj).1
   exact qf _ _ (dK.ak x aj) (d9 x gR).1 (d9 x gR).2
  .intro b ad J U aq aK
   rw[bJ,if_neg (fun e=>aq e.symm),mK b I aK,bJ,if_neg I,aw b J U,bJ,if_neg I]
  .rcases cE b ad with h|h
   .exact .inl h
   .exact .inr I
 .have ku:(0:Int)< ((ki w.ws).length:Int):=by
   simp only[ki,List.length_map]
   cases h:w.ws with
   |nil=>exact absurd h hw
   |cons _ _=>simp only[List.length_cons];omega
  refine aL IV (kw hr g2 uL (dF zJ) (gS zJ) (dF G4) (gS G4) (dF o') (gS o') kI ku) ?_
  apply aF
  refine a6 i58.eq_1 ?_
  intro az
  refine⟨g,fun b c ad=>?_,J hw _ az⟩
  have:=ap b c ad
  rw[bJ,if_neg I];exact ad
end
