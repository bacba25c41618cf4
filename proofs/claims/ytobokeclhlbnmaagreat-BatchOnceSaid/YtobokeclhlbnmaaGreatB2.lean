/- Part of the proof of BatchOnce, for every input. -/
import Derived.Test.YtobokeclhlbnmaaGreatB1
set_option linter.all false
namespace Go.Proofs.Run
open Go Go.Abs
attribute [local irreducible] b9 cI cr cg aR
set_option maxRecDepth 100000
set_option maxHeartbeats 4000000
section
variable{α:Type}{A:h3 α}{g:G}{n:Nat}{a:α}{K:cj α}{an lb:Nat}{m:ck}
theorem z1(w:gm)(q:List gm):ja (w::q)= .int .i64 w.h:: .map w.b::ja q:=rfl
theorem Mr(p q:List gm):ja (p++q)=ja p++ja q:=by simp[ja]
theorem ade:∀(q:List gm) (i:Nat),(ja q).take (i*2)=ja (q.take i)
 |[],i=>by simp[ja]
 |w::q,0=>by simp[ja]
 |w::q,i+1=>by
  have e:(i+1)*2=i*2+1+1:=I
  rw[e,z1,List.take_succ_cons,List.take_succ_cons,ade q i,List.take_succ_cons,z1]
theorem adb:∀(q:List gm) (i:Nat) (w:gm),i<q.length->((ja q).set (i*2) (.int .i64 w.h)).set (i*2+1) (.map w.b)=ja (q.set i w)
 |[],i,w,h=>by simp at h
 |x::q,0,w,h=>by simp[z1]
 |x::q,i+1,w,h=>by
  have e:(i+1)*2=i*2+1+1:=I
  rw[e,z1,List.set_cons_succ,List.set_cons_succ,List.set_cons_succ,List.set_cons_succ,adb q i w (by simpa using h),List.set_cons_succ,z1]
theorem Qn{l:List V}{o k i:Nat}{v:V}(aC:i<k):((l.set (o+i) v).drop o).take k=((l.drop o).take k).set i v:=by
 rw[List.drop_set,if_neg I,List.take_set]
 congr 1;omega
theorem aFs{X:List gm}{b o cap:Nat}{len:Nat}{cells:List V}(aw:g b=some (.al false cells))(af:o+cap*2<=cells.length)(hle:len<=cap)(tf:X.length=len)(hw:ja X=(cells.drop o).take (len*2)){i:Nat}(aC:i<len)(w:gm):
 om g b (o+i*2) [.int .i64 w.h,.map w.b]=some (a1 g b (.al false ((cells.set (o+i*2) (.int .i64 w.h)).set (o+i*2+1) (.map w.b))))/\
 ja (X.set i w)=((((cells.set (o+i*2) (.int .i64 w.h)).set (o+i*2+1) (.map w.b))).drop o).take (len*2):=by
 constructor
 .simp only[om,aw,nQ,List.length_cons,List.length_nil]
  rw[if_pos ⟨I,rfl⟩]
 .have e:o+i*2+1=o+(i*2+1):=I
  rw[e,Qn I,Qn I,<-hw,adb X i w I]
structure n1(g:G)(an lb ar c1 c2:Nat)(dS:Nat)(hq:Int)(bC:V)(fl:List Nat)(q:List gm)(m:ck)(dw:V)(k:Nat)(vs:List V)(iH:List Nat):Prop where
 hm:gw g an lb m
 hr:g c1=some (.al false [.ptr ar 0])
 g2:g c2=some (.al false [dw])
 aV:h6 g 1 dw k vs iH
 aw:g ar=some (.al false [.ptr an 0,.int .i64 hq,.map dS,bC])
 hw:∀w∈q,g w.b=some (.mp false (ki w.ws))
 d:c1≠an/\c2≠an/\ar≠an/\c2∉iH/\an∉iH/\lb∉iH/\c2≠ar/\c2≠c1/\∀r∈m.live,r.b∉iH/\r.b≠c2
 d2:c1∉iH/\ar∉iH/\∀w∈q,w.b∉iH/\w.b≠lb
 d3:∀b∈fl,b≠an/\b≠lb/\b≠c2/\b∉iH/\b≠c1/\b≠ar/\∀r∈m.live,r.b≠b
theorem asr{dS ar c1 c2:Nat}{hq:Int}{bC dw:V}{fl iH:List Nat}{q:List gm}{k:Nat}{vs:List V}(h:n1 g an lb ar c1 c2 dS hq bC fl q m dw k vs iH)(ap:bm g n){w:gm}(hw:w∈q)(bd:m.has w.h)(ah:k<100000)
 (J:w.ws≠[]->∀n',n<=n'->K (.bool false) g n' a)
 (U:w.ws=[]->∀g' n' nC hy mG,n<=n'->n1 g' an lb ar c1 c2 dS hq bC fl q (m.jm w.h) nC (k+1) hy mG->(∀b,b<n->b≠an->b≠lb->b≠c2->b∉iH->g' b=g b)->(∀b∈mG,b∈iH\/n<=b)->K (.bool true) g' n' a)
 (cE:∀b∈fl,b<n):
 aR A bA 58 ([]++[.agg [.int .i64 w.h,.map w.b]]++[.ptr c1 0,.ptr c2 0]) g n a K:=by
 refine aH5 h.hm ap bd h.hr h.g2 h.aV ah h.aw (h.hw w hw) h.d J fun he g' n' nC hy fl' az dK mK azb y7 oD azc=>U he g' n' nC hy fl' az ?_ mK oD
 obtain⟨d1,d2,d3,d4,d5,d6,d7,d8,d9⟩:=h.d
 obtain⟨aD,aJ,bP⟩:=h.d2
 have avH:c1≠lb:=fun e=>by have:=h.hm.aA;rw[<-e,h.hr]at this;simp at this
 have ayi:ar≠lb:=fun e=>by have:=h.hm.aA;rw[<-e,h.aw]at this;simp at this
 have aI8:∀w∈q,w.b≠an:=fun w hw e=>by have:=h.hw w hw;rw[e,h.hm.hm]at this;simp at this
 have NM:∀w∈q,w.b≠c2:=fun w hw e=>by have:=h.hw w hw;rw[e,h.g2]at this;simp at this
 refine⟨dK,?_,azb,y7,?_,fun w hw=>?_,⟨d1,d2,d3,azc,?_,?_,d7,d8,fun r ak=>?_⟩,⟨?_,?_,fun w hw=>⟨?_,(bP w hw).2⟩⟩,fun b ad=>?_⟩
 .rw[mK c1 (ap _ _ h.hr) d1 avH (fun e=>d8 e.symm) aD];exact h.hr
 .rw[mK ar (ap _ _ h.aw) d3 ayi (fun e=>d7 e.symm) aJ];exact h.aw
 .rw[mK w.b (ap _ _ (h.hw w hw)) (aI8 w hw) (bP w hw).2 (NM w hw) (bP w hw).1];exact h.hw w hw
 .intro ad
  rcases oD an ad with ad|ad
  .exact d5 ad
  .have:=ap _ _ h.hm.hm;omega
 .intro ad
  rcases oD lb ad with ad|ad
  .exact d6 ad
  .have:=ap _ _ h.hm.aA;omega
 .have ke:=aeN ak
  refine⟨fun ad=>?_,(d9 r ke).2⟩
  rcases oD r.b ad with ad|ad
  .exact(d9 r ke).1 ad
  .have:=ap _ _ (h.hm.ak r ke);omega
 .intro ad
  rcases oD c1 ad with ad|ad
  .exact aD ad
  .have:=ap _ _ h.hr;omega
 .intro ad
  rcases oD ar ad with ad|ad
  .exact aJ ad
  .have:=ap _ _ h.aw;omega
 .intro ad
  rcases oD w.b ad with ad|ad
  .exact(bP w hw).1 ad
  .have:=ap _ _ (h.hw w hw);omega
 .obtain⟨f1,f2,f3,f4,f5,f6,f7⟩:=h.d3 b ad
  refine⟨f1,f2,f3,fun eN=>?_,f5,f6,fun r ak=>f7 r (aeN ak)⟩
  rcases oD b eN with ay|ay
  .exact f4 ay
  .have:=cE b ad;omega
end
section
variable{α:Type}{A:h3 α}{g:G}{n:Nat}{a:α}{K:cj α}{an lb:Nat}{m:ck}
theorem asp{q:List gm}(h:∀w∈q,w.ws≠[])(m:ck):m.cX q=m/\stay q=q:=by
 constructor
 .simp only[ck.cX]
  induction q generalizing m with
  |nil=>rfl
  |cons w q c0=>
   simp only[List.foldl_cons,if_neg (h w aM)]
   exact c0 (fun w hw=>h w (by simp[hw])) m
 .simp only[stay]
  rw[List.filter_eq_self]
  intro w hw
  have:=h w hw
  cases aj:w.ws with
  |nil=>exact absurd aj this
  |cons _ _=>rfl
theorem Nw(m:ck)(q:List gm)(w:gm):m.cX (q++[w])=if w.ws=[]then(m.cX q).jm w.h else m.cX q:=by
 simp only[ck.cX,List.foldl_append,List.foldl_cons,List.foldl_nil]
theorem Nq(q:List gm)(w:gm):stay (q++[w])=if w.ws=[]then stay q else stay q++[w]:=by
 simp only[stay,List.filter_append]
 cases hw:w.ws with
 |nil=>rw[List.filter_cons_of_neg (by simp[hw])];simp
 |cons x l=>rw[List.filter_cons_of_pos (by simp[hw])];simp
theorem Rh{m:ck}{q:List gm}{h:Int}(bd:m.has h)(az:∀w∈q,w.h≠h):(m.cX q).has h:=by
 simp only[ck.cX]
 induction q generalizing m with
 |nil=>exact bd
 |cons w q c0=>
  simp only[List.foldl_cons]
  refine c0 ?_ fun w hw=>az w (by simp[hw])
  split
  .exact Kf (fun e=>az w aM e.symm) bd
  .exact bd
section
variable{ar c1 c2 dS:Nat}{hq:Int}{bC dw:V}{fl iH:List Nat}{q:List gm}{k:Nat}{vs:List V}
theorem n1.b6{g':G}(h:n1 g an lb ar c1 c2 dS hq bC fl q m dw k vs iH)(aw:∀b,b=an\/b=lb\/b=c1\/b=c2\/b=ar\/b∈iH\/(∃r∈m.live,b=r.b)\/(∃w∈q,b=w.b)->g' b=g b):n1 g' an lb ar c1 c2 dS hq bC fl q m dw k vs iH:=
 ⟨h.hm.b6 (aw _ aM) (aw _ aM) fun r ak=>aw _ (.inr (.inr (.inr (.inr (.inr (.inr (.inl ⟨r,ak,rfl⟩))))))),by rw[aw _ aM];exact h.hr,by rw[aw _ aM];exact h.g2,h.aV.b6 fun b ad=>aw b (by simp[ad]),by rw[aw _ aM];exact h.aw,
  fun w hw=>by rw[aw _ (.inr (.inr (.inr (.inr (.inr (.inr (.inr ⟨w,hw,rfl⟩)))))))];exact h.hw w hw,h.d,h.d2,h.d3⟩
theorem n1.told(h:n1 g an lb ar c1 c2 dS hq bC fl q m dw k vs iH)(ap:bm g n):∀b,b=an\/b=lb\/b=c1\/b=c2\/b=ar\/b∈iH\/(∃r∈m.live,b=r.b)\/(∃w∈q,b=w.b)->b<n:=by
 rintro b (rfl|rfl|rfl|rfl|rfl|ad|⟨r,ak,rfl⟩|⟨w,hw,rfl⟩)
 .exact ap _ _ h.hm.hm
 .exact ap _ _ h.hm.aA
 .exact ap _ _ h.hr
 .exact ap _ _ h.g2
 .exact ap _ _ h.aw
 .exact h.aV.lt ap b ad
 .exact ap _ _ (h.hm.ak r ak)
 .exact ap _ _ (h.hw w hw)
theorem n1.new(h:n1 g an lb ar c1 c2 dS hq bC fl q m dw k vs iH)(ap:bm g n){b:Nat}(ad:n<=b)(c:bt):n1 (a1 g b c) an lb ar c1 c2 dS hq bC fl q m dw k vs iH:=
 h.b6 fun x aj=>by have:=h.told ap x aj;rw[bJ,if_neg I]
theorem n1.wr(h:n1 g an lb ar c1 c2 dS hq bC fl q m dw k vs iH){b:Nat}(ad:b∈fl){ro:Bool}{l:List V}(af:g b=some (.al ro l))(c:bt):n1 (a1 g b c) an lb ar c1 c2 dS hq bC fl q m dw k vs iH:=by
 obtain⟨f1,f2,f3,f4,f5,f6,f7⟩:=h.d3 b ad
 refine h.b6 fun x aj=>?_
 rw[bJ,if_neg ?_]
 rintro rfl
 rcases aj with e|e|e|e|e|e|⟨r,ak,e⟩|⟨w,hw,e⟩
 .exact f1 e
 .exact f2 e
 .exact f5 e
 .exact f3 e
 .exact f6 e
 .exact f4 e
 .exact f7 r ak e.symm
 .have:=h.hw w hw;rw[<-e,af]at this;simp at this
end
structure NW(e5:G)(bR:Nat)(an lb ar c1 c2 dS:Nat)(hq:Int)(mV o cap:Nat)(q:List gm)(m:ck)(QQ:List Nat)(sC L j:Nat)(g:G)(n:Nat)(X:List gm)(cells:List V)(dw:V)(k:Nat)(vs:List V)(iH:List Nat):Prop where
 aBH:j<=q.length
 DO:(stay (q.take j)).length<j
 ve:X.length=q.length
 eB:X.take (stay (q.take j)).length=stay (q.take j)
 iT:X.drop j=q.drop j
 af:g mV=some (.al false cells)
 cl:cells.length=L
 aj:ja X=(cells.drop o).take (q.length*2)
 yf:n1 g an lb ar c1 c2 dS hq (.slice mV o q.length cap 2) [mV] q (m.cX (q.take j)) dw k vs iH
 eX:k<=sC+j
 lt:bm g n
 dF:bR<=n
 eI:∀b,b<bR->b≠an->b≠lb->b≠c2->b∉QQ->b≠mV->g b=e5 b
 mG:∀b∈iH,b∈QQ\/bR<=b
theorem aH4{q:List gm}{i:Nat}(aC:i<q.length)(aB:∀j (ax:j<q.length),j<i->q[j].ws≠[])(he:q[i].ws=[])(m:ck):m.cX (q.take (i+1))=m.jm q[i].h/\stay (q.take (i+1))=q.take i:=by
 have lQ:∀w∈q.take i,w.ws≠[]:=fun w hw=>by
  obtain⟨j,ax,rfl⟩:=List.getElem_of_mem hw
  simp only[List.length_take]at ax
  rw[List.getElem_take]
  exact aB j I I
 obtain⟨s1,s2⟩:=asp lQ m
 rw[List.take_succ_eq_append_getElem aC,Nw,Nq,if_pos he,if_pos he,s1,s2]
 exact⟨rfl,rfl⟩
theorem aw1{ar c1 c2 dS:Nat}{hq:Int}{bC dw:V}{fl iH:List Nat}{q:List gm}{k:Nat}{vs:List V}(h:n1 g an lb ar c1 c2 dS hq bC fl q m dw k vs iH)(av:h6 g 2 bC q.length (ja q) fl)(ap:bm g n)(bd:∀w∈q,m.has w.h)(gO:(q.map (·.h)).Nodup)(ah:k+q.length<100000)
 (lY:∀g' n' c_ nC a9 hy mG,n<=n'->n1 g' an lb ar c1 c2 dS hq bC fl q (m.cX q) nC a9 hy mG->h6 g' 2 c_ (stay q).length (ja (stay q)) fl->(∀b,b<n->b≠an->b≠lb->b≠c2->b∉iH->b∉fl->g' b=g b)->(∀b∈mG,b∈iH\/n<=b)->K c_ g' n' a):
 aR A bA 57 [bC,.fn (.func 58) [] [.ptr c1 0,.ptr c2 0]] g n a K:=by
 have cE:=av.lt ap
 refine bE i57 fun N aF=>?_
 refine dl yA ?_
 refine Sx (fl:=fl) (q:=q) (fun i g' n' a'=>g'=g/\a'=a/\n<=n'/\∀j (ax:j<q.length),j<i->q[j].ws≠[])
  (fun i g' n' a'=>a'=a/\n<=n'/\(∀j (ax:j<q.length),j<i->q[j].ws≠[])/\∃aC:i<q.length,q[i].ws=[]/\∃nC a9 hy mG,a9=k+1/\n1 g' an lb ar c1 c2 dS hq bC fl q (m.jm q[i].h) nC a9 hy mG/\(∀b,b<n->b≠an->b≠lb->b≠c2->b∉iH->g' b=g b)/\(∀b∈mG,b∈iH\/n<=b)) I ⟨rfl,rfl,Nat.le_refl _,by intros;omega⟩ (by rintro i g' n' a' ⟨rfl,_⟩;exact av) ?_ ?_ ?_
 .rintro i aC g' n' a' pN az ⟨rfl,rfl,oF,aB⟩ iM jj
  have dm:bm g' n':=fun b c ad=>by have:=ap b c ad;omega
  refine asr h dm (List.getElem_mem aC) (bd _ (List.getElem_mem aC)) I (fun bp aT cB=>iM _ _ _ cB ⟨rfl,rfl,I,fun j ax KH=>?_⟩) (fun he ba aT nC hy mG cB aa mK vQ=>jj _ _ _ cB ⟨rfl,I,aB,aC,he,nC,k+1,hy,mG,rfl,aa,fun b ad=>mK b I,fun b ad=>?_⟩) fun b ad=>by have:=cE b ad;omega
  .by_cases KI:j<i
   .exact aB j ax KI
   .have:j=i:=I
    subst this;exact bp
  .rcases vQ b ad with h|h
   .exact .inl h
   .exact .inr I
 .rintro g' n' a' az ⟨rfl,rfl,oF,aB⟩
  intro cf
  refine dl (aN MT.eq_1 yA) ?_
  apply aF
  refine a6 i57.eq_1 ?_
  intro _
  have lQ:∀w∈q,w.ws≠[]:=fun w hw=>by
   obtain⟨j,ax,rfl⟩:=List.getElem_of_mem hw
   exact aB j ax ax
  obtain⟨s1,s2⟩:=asp lQ m
  exact .all (lY _ _ _ dw k vs iH az (by rw[s1];exact h) (by rw[s2];exact av) (fun b _ _ _ _ _ _=>rfl) fun b ad=>.inl ad)
 .rintro i g' n' a' az aC ⟨rfl,oF,aB,_,y9,nC,a9,hy,mG,rfl,aa,mK,vQ⟩
  intro dm
  obtain⟨mV,o,cap,cells,rfl,Sd,mL,hs,aAO,rfl⟩:=av.ld I
  obtain⟨aHT,Np⟩:=aH4 aC aB y9 m
  have Jd:((i:Int)== -1)=false:=aM
  have dA:IntKind.wrap .i64 ((i:Int)+1)=((i+1:Nat):Int):=by rw[wrap_i64 I I];omega
  have Ba:∀{mG:List Nat} {hW:ck} {g':G} {nC:V} {a9:Nat} {hy:List V},n1 g' an lb ar c1 c2 dS hq (.slice mV o q.length cap 2) [mV] q hW nC a9 hy mG->mV≠an/\mV≠lb/\mV≠c2/\mV∉mG:=fun aa=>by
   obtain⟨f1,f2,f3,f4,_⟩:=aa.d3 mV aM
   exact⟨f1,f2,f3,f4⟩
  have Gw:=Ba h
  refine aL (aN MT.eq_1 yA) (aN Jd dA) ?_
  have azr:NW g n an lb ar c1 c2 dS hq mV o cap q m iH k cells.length (i+1) g' n' q cells nC (k+1) hy mG:=by
   refine⟨I,?_,rfl,?_,rfl,?_,rfl,aAO,by rw[aHT];exact aa,I,dm,oF,fun b ad b1 b2 b3 ox h7=>mK b ad b1 b2 b3 ox,vQ⟩
   .rw[Np,List.length_take];omega
   .rw[Np,List.length_take,Nat.min_eq_left I]
   .rw[mK mV (ap _ _ Sd) Gw.1 Gw.2.1 Gw.2.2.1 Gw.2.2.2];exact Sd
  refine qp (fun eX t ba aT b7=>∃j X qG F3 jj H_ CL,eX=q.length-j/\NW g n an lb ar c1 c2 dS hq mV o cap q m iH k cells.length j ba aT X qG F3 jj H_ CL/\b7=a'/\aW t (.t 0)= .slice mV o q.length cap 2/\aW t (.t 1)= .fn (.func 58) [] [.ptr c1 0,.ptr c2 0]/\aW t (.t 5)= .int .i64 (stay (q.take j)).length/\aW t (.t 6)= .int .i64 j) (q.length- (i+1)) ⟨i+1,q,cells,nC,k+1,hy,mG,rfl,azr,rfl,dW,dW,by rw[Np];exact bD (aN @List.length_take.{0} (Nat.min_eq_left (Nat.le_of_lt aC))),dW⟩ ?_
  rintro eX t ba aT b7 ⟨j,X,qG,F3,jj,H_,CL,rfl,aH,rfl,cZ,aD,iX,m5⟩
  by_cases ax:j<q.length
  .have awM:(j:Int)< (q.length:Int):=I
   have GX:(0:Int)<=(j:Int):=I
   have asP:IntKind.wrap .i64 ((j:Int)+1)=((j+1:Nat):Int):=by rw[wrap_i64 I I];omega
   have Re:X[j]? =some q[j]:=by
    have:(X.drop j)[0]? =(q.drop j)[0]? :=by rw[aH.iT]
    simpa[ax]using this
   have Rf:j<X.length:=by rw[aH.ve];exact ax
   have ay0:X[j]=q[j]:=by
    rw[List.getElem?_eq_getElem Rf]at Re
    exact Option.some.inj Re
   have oc:h6 ba 2 (.slice mV o X.length cap 2) X.length (ja X) [mV]:=.inr ⟨mV,o,cap,qG,rfl,aH.af,by rw[aH.ve];exact mL,by rw[aH.cl];exact hs,by rw[aH.ve];exact aH.aj,rfl⟩
   obtain⟨b',mT,gG,qb,mO,tk⟩:=Mq oc Rf
   simp only[V.slice.injEq]at qb
   obtain⟨rfl,rfl,_,rfl,_⟩:=qb
   rw[ay0]at tk
   simp only[ni,if_true,Nat.add_assoc]at tk
   have S7:=aH.lt _ _ aH.af
   refine aL yA (e_ cZ aD iX m5 awM GX @Int.toNat_natCast tk) ?_
   have Sr:=List.getElem_mem ax
   have cB:bm (a1 (a1 ba aT (.al false [.int .i64 0,.hC])) aT (.al false [.int .i64 q[j].h,.map q[j].b])) (aT+1):=fun b c ad=>by
    rw[bJ,bJ]at ad
    by_cases e:aT=b
    .omega
    .rw[if_neg e,if_neg e]at ad
     have:=aH.lt _ _ ad;omega
   have rM:=(aH.yf.new aH.lt (Nat.le_refl _) (.al false [.int .i64 0,.hC])).b6 (g':=a1 (a1 ba aT (.al false [.int .i64 0,.hC])) aT (.al false [.int .i64 q[j].h,.map q[j].b])) fun x aj=>by have:=aH.yf.told aH.lt x aj;rw[bJ,if_neg I]
   have azV:(m.cX (q.take j)).has q[j].h:=Rh (bd _ Sr) fun w hw e=>by
    obtain⟨i2,p8,rfl⟩:=List.getElem_of_mem hw
    simp only[List.length_take]at p8
    rw[List.getElem_take]at e
    have:=List.pairwise_iff_getElem.1 gO i2 j (by simp;omega) (by simpa using ax) I
    simp only[List.getElem_map]at this
    exact this e
   refine asr rM cB Sr azV (by have:=aH.eX;omega) (fun bp cq iJ=>?_) (fun he fH cq axX aIV axz iJ sx Rg azM=>?_) fun b ad=>by simp only[List.mem_singleton]at ad;omega
   ·
    intro rG
    have Rd:(stay (q.take j)).length<X.length:=by have:=aH.DO;rw[aH.ve];omega
    obtain⟨st1,st2⟩:=aFs (g:=a1 (a1 ba aT (.al false [.int .i64 0,.hC])) aT (.al false [.int .i64 q[j].h,.map q[j].b])) (X:=X) (b:=mV) (o:=o) (cap:=cap) (len:=q.length) (cells:=qG) (by rw[bJ,if_neg I,bJ,if_neg I];exact aH.af) (by rw[aH.cl];exact hs) mL aH.ve aH.aj (by rw[<-aH.ve];exact Rd) q[j]
    have od:stay (q.take (j+1))=stay (q.take j)++[q[j]]:=by rw[List.take_succ_eq_append_getElem ax,Nq,if_neg bp]
    have La:m.cX (q.take (j+1))=m.cX (q.take j):=by rw[List.take_succ_eq_append_getElem ax,Nw,if_neg bp]
    have i0:(0:Int)<=((stay (q.take j)).length:Int):=I
    have i1:((stay (q.take j)).length:Int)< (q.length:Int):=by have:=aH.ve;omega
    have i2:IntKind.wrap .i64 (((stay (q.take j)).length:Int)+1)=(((stay (q.take (j+1))).length:Nat):Int):=by
     rw[od,wrap_i64 I I];simp
    have hle:o+((stay (q.take j)).length*2+2)<=qG.length:=by
     have:=aH.cl;have:(q.length)*2<=cap*2:=Nat.mul_le_mul_right 2 mL
     omega
    refine aL (aN MU.eq_1 yA) (bs cZ aD iX m5 i0 i1 i2 asP @Int.toNat_natCast aH.af (dF S7) (aN (gS S7) hle)) ?_
    have Bb:=Ba aH.yf
    have aC4:=aH.lt _ _ aH.af
    refine⟨q.length- (j+1),I,j+1,X.set (stay (q.take j)).length q[j],_,F3,jj,H_,CL,rfl,⟨I,by rw[od];have:=aH.DO;simp;omega,by rw[List.length_set];exact aH.ve,?_,?_,by rw[bJ,if_pos rfl,Nat.add_assoc],by rw[List.length_set,List.length_set];exact aH.cl,st2,?_,by have:=aH.eX;omega,rG.a1 I _,by have:=aH.dF;omega,?_,aH.mG⟩,rfl,rfl⟩
    .rw[od,List.length_append,List.length_singleton]
     rw[List.take_succ_eq_append_getElem (by rw[List.length_set];exact Rd),List.getElem_set_self,List.take_set_of_le (Nat.le_refl _),aH.eB]
    .rw[List.drop_set_of_lt (by have:=aH.DO;omega)]
     have:=congrArg (List.drop 1) aH.iT
     rw[List.drop_drop,List.drop_drop]at this
     exact this
    .rw[La]
     exact rM.wr aM (ro:=false) (l:=qG) (by rw[bJ,if_neg I,bJ,if_neg I];exact aH.af) _
    .intro b ad b1 b2 b3 ox h7
     have:=aH.dF
     rw[bJ,if_neg (fun e=>h7 e.symm),bJ,if_neg I,bJ,if_neg I]
     exact aH.eI b ad b1 b2 b3 ox h7
   .intro rG
    have od:stay (q.take (j+1))=stay (q.take j):=by rw[List.take_succ_eq_append_getElem ax,Nq,if_pos he]
    have La:m.cX (q.take (j+1))=(m.cX (q.take j)).jm q[j].h:=by rw[List.take_succ_eq_append_getElem ax,Nw,if_pos he]
    refine aL (aN MU.eq_1 yA) (eW cZ aD iX m5 asP) ?_
    have Bb:=Ba aH.yf
    have aC4:=aH.lt _ _ aH.af
    refine⟨q.length- (j+1),I,j+1,X,qG,axX,jj+1,aIV,axz,rfl,⟨I,by rw[od];have:=aH.DO;omega,aH.ve,by rw[od];exact aH.eB,?_,?_,aH.cl,aH.aj,by rw[La];exact sx,by have:=aH.eX;omega,rG,by have:=aH.dF;omega,?_,?_⟩,by rw[od],rfl⟩
    .have:=congrArg (List.drop 1) aH.iT
     rw[List.drop_drop,List.drop_drop]at this
     exact this
    .rw[Rg mV I Bb.1 Bb.2.1 Bb.2.2.1 Bb.2.2.2,bJ,if_neg I,bJ,if_neg I]
     exact aH.af
    .intro b ad b1 b2 b3 ox h7
     have:=aH.dF
     by_cases Ri:b∈CL
     .rcases aH.mG b Ri with h|h
      .exact absurd h ox
      .omega
     .rw[Rg b I b1 b2 b3 Ri,bJ,if_neg I,bJ,if_neg I]
      exact aH.eI b ad b1 b2 b3 ox h7
    .intro b ad
     rcases azM b ad with h|h
     .exact aH.mG b h
     .have:=aH.dF;exact .inr I
  .have KJ:j=q.length:=by have:=aH.aBH;omega
   subst KJ
   have Gp:=aH.DO
   have Li:=aH.ve
   have nh:=aH.eB
   have azk:=aH.cl
   have aA2:(stay (q.take q.length)).length<=q.length:=I
   rw[List.take_length]at*
   have eu:(stay q).length<=q.length:=aA2
   have jH:(0:Int)<=((stay q).length:Int):=I
   have m1:o+((stay q).length*2+(q.length- (stay q).length)*2)<=qG.length:=by
    have:(q.length)*2<=cap*2:=Nat.mul_le_mul_right 2 mL
    omega
   have Je:¬q.length- (stay q).length=0:=I
   have M5:∀k,(im [V.int .i64 0,V.hC] k).length=k*2:=fun k=>by
    induction k with
    |zero=>rfl
    |succ k c0=>simp only[im,List.length_append,c0,List.length_cons,List.length_nil];omega
   have aFU:∀k,(im [V.int .i64 0,V.hC] k).all V.cell=true:=fun k=>by
    induction k with
    |zero=>rfl
    |succ k c0=>simp only[im,List.all_append,c0];rfl
   have Jf:(stay q).length<=cap:=I
   refine fG yA (bs cZ aD iX m5 @Int.lt_irrefl ix.eq_1 ix.eq_2 ix.eq_3 @Int.toNat_natCast eu jH (gq Je M5 aFU mL aH.af m1 Jf)) ?_
   apply aF
   refine a6 i57.eq_1 ?_
   intro _
   have Bb:=Ba aH.yf
   have sA:(nQ qG (o+(stay q).length*2) (im [V.int IntKind.i64 0,V.hC] (q.length- (stay q).length)))=qG.take (o+(stay q).length*2)++im [V.int IntKind.i64 0,V.hC] (q.length- (stay q).length)++qG.drop (o+(stay q).length*2+(im [V.int IntKind.i64 0,V.hC] (q.length- (stay q).length)).length):=EV _ _ _ (by rw[M5];omega)
   have xF:(nQ qG (o+(stay q).length*2) (im [V.int IntKind.i64 0,V.hC] (q.length- (stay q).length))).length=qG.length:=by
    rw[sA];simp only[List.length_append,List.length_take,List.length_drop,M5];omega
   refine .all (lY _ _ _ F3 jj H_ CL aH.dF (by have p1:=aH.yf;rw[List.take_length]at p1;exact p1.wr aM aH.af _) (.inr ⟨mV,o,cap,_,rfl,by rw[bJ,if_pos rfl],I,by rw[xF,azk];exact hs,?_,rfl⟩) (fun b ad b1 b2 b3 ox h7=>?_) aH.mG)
   .rw[sA,List.append_assoc,List.drop_append_of_le_length (by rw[List.length_take];omega),List.drop_take]
    have aJ:o+(stay q).length*2-o=(stay q).length*2:=I
    have bP:((qG.drop o).take ((stay q).length*2)).length=(stay q).length*2:=by rw[List.length_take,List.length_drop];omega
    rw[aJ,List.take_left' bP]
    have:=congrArg (List.take ((stay q).length*2)) aH.aj
    rw[ade,nh,List.take_take,Nat.min_eq_left I]at this
    exact this
   .rw[bJ,if_neg (fun e=>h7 (by simp[e]))]
    exact aH.eI b ad b1 b2 b3 ox (fun e=>h7 (by simp[e]))
end
section
structure aE where
 an:Nat
 lb:Nat
 ar:Nat
 dS:Nat
 bC:V
 fl:List Nat
 m:ck
 hq:Int
 inside:List Int
 queue:List gm
def aE.own(s:aE):List Nat:=s.an::s.lb::s.ar::s.dS::(s.fl++(s.queue.map (·.b)++s.m.live.map (·.b)))
structure iE(g:G)(s:aE):Prop where
 hm:gw g s.an s.lb s.m
 aw:g s.ar=some (.al false [.ptr s.an 0,.int .i64 s.hq,.map s.dS,s.bC])
 aC:g s.dS=some (.mp false (ki s.inside))
 av:h6 g 2 s.bC s.queue.length (ja s.queue) s.fl
 hw:∀w∈s.queue,g w.b=some (.mp false (ki w.ws))
 de:s.own.Nodup
 uW:s.inside.Nodup
 tH:∀w∈s.queue,w.ws.Nodup
 bd:∀w∈s.queue,s.m.has w.h
 tF:(s.queue.map (·.h)).Nodup
 oj:s.queue.length<50000
theorem D4{β:Type}{f:β->Nat}{l:List β}{x:β}(h:x∈l):f x∈l.map f:=List.mem_map_of_mem h
structure aE.Fe(s:aE):Prop where
 q0:s.an≠s.lb
 i':s.an≠s.ar
 sH:s.an≠s.dS
 tw:s.lb≠s.ar
 jk:s.lb≠s.dS
 s_:s.ar≠s.dS
 f:∀b∈s.fl,b≠s.an/\b≠s.lb/\b≠s.ar/\b≠s.dS
 w:∀w∈s.queue,w.b≠s.an/\w.b≠s.lb/\w.b≠s.ar/\w.b≠s.dS/\w.b∉s.fl
 r:∀r∈s.m.live,r.b≠s.an/\r.b≠s.lb/\r.b≠s.ar/\r.b≠s.dS/\r.b∉s.fl/\∀w∈s.queue,r.b≠w.b
theorem iE.ds{g:G}{s:aE}(h:iE g s):s.Fe:=by
 have de:=h.de
 simp only[aE.own,List.nodup_cons,List.mem_cons,List.mem_append,not_or,List.nodup_append]at de
 obtain⟨⟨q0,i',sH,aDy,aDD,b8⟩,⟨tw,jk,a0,lw,cV⟩,⟨s_,ayl,ayr,ayn⟩,⟨iff,uN,aBF⟩,Tz,⟨aLw,tG,aDK⟩,TA⟩:=de
 refine⟨q0,i',sH,tw,jk,s_,fun b ad=>⟨fun e=>aDy (e▸ad),fun e=>a0 (e▸ad),fun e=>ayl (e▸ad),fun e=>iff (e▸ad)⟩,fun w hw=>?_,fun r ak=>?_⟩
 .have:=D4 (f:=gm.b) hw
  exact⟨fun e=>aDD (e▸this),fun e=>lw (e▸this),fun e=>ayr (e▸this),fun e=>uN (e▸this),fun ad=>TA _ ad w.b (.inl this) rfl⟩
 .have:=D4 (f:=gY.b) ak
  exact⟨fun e=>b8 (e▸this),fun e=>cV (e▸this),fun e=>ayn (e▸this),fun e=>aBF (e▸this),fun ad=>TA _ ad r.b (.inr this) rfl,fun w hw e=>aDK w.b (D4 hw) r.b this e.symm⟩
theorem aE.Fe.aLQ{s:aE}(h:s.Fe):s.lb≠s.an/\s.ar≠s.an/\s.dS≠s.an/\s.ar≠s.lb/\s.dS≠s.lb/\s.dS≠s.ar:=⟨h.q0.symm,h.i'.symm,h.sH.symm,h.tw.symm,h.jk.symm,h.s_.symm⟩
theorem fb{s:aE}{b:Nat}:b∈s.own↔b=s.an\/b=s.lb\/b=s.ar\/b=s.dS\/b∈s.fl\/(∃w∈s.queue,w.b=b)\/∃r∈s.m.live,r.b=b:=by
 simp only[aE.own,List.mem_cons,List.mem_append,List.mem_map]
theorem iE.b6{g g':G}{s:aE}(h:iE g s)(aw:∀b∈s.own,g' b=g b):iE g' s:=by
 have e:∀b,(b=s.an\/b=s.lb\/b=s.ar\/b=s.dS\/b∈s.fl\/(∃w∈s.queue,w.b=b)\/∃r∈s.m.live,r.b=b)->g' b=g b:=fun b ad=>aw b (fb.2 ad)
 exact⟨h.hm.b6 (e _ aM) (e _ aM) fun r ak=>e _ (.inr (.inr (.inr (.inr (.inr (.inr ⟨r,ak,rfl⟩)))))),by rw[e _ aM];exact h.aw,by rw[e _ aM];exact h.aC,h.av.b6 fun b ad=>e _ (by simp[ad]),fun w hw=>by rw[e _ (.inr (.inr (.inr (.inr (.inr (.inl ⟨w,hw,rfl⟩))))))];exact h.hw w hw,h.de,h.uW,h.tH,h.bd,h.tF,h.oj⟩
theorem iE.told{g:G}{s:aE}{n:Nat}(h:iE g s)(ap:bm g n):∀b∈s.own,b<n:=by
 intro b ad
 rcases fb.1 ad with rfl|rfl|rfl|rfl|ad|⟨w,hw,rfl⟩|⟨r,ak,rfl⟩
 .exact ap _ _ h.hm.hm
 .exact ap _ _ h.hm.aA
 .exact ap _ _ h.aw
 .exact ap _ _ h.aC
 .exact h.av.lt ap b ad
 .exact ap _ _ (h.hw w hw)
 .exact ap _ _ (h.hm.ak r ak)
theorem M6{m:ck}{h:Int}:List.Sublist (m.jm h).live m.live:=by
 simp only[ck.jm];split
 .exact List.filter_sublist
 .exact List.Sublist.refl _
theorem Nv(q:List gm):∀(m:ck),List.Sublist (m.cX q).live m.live:=by
 induction q with
 |nil=>exact fun m=>List.Sublist.refl _
 |cons w q c0=>
  intro m
  simp only[ck.cX,List.foldl_cons]
  refine(c0 _).trans ?_
  split
  .exact M6
  .exact List.Sublist.refl _
theorem ay8{m:ck}{q:List gm}(az:(q.map (·.h)).Nodup)(bd:∀w∈q,m.has w.h):∀w∈stay q,(m.cX q).has w.h:=by
 induction q generalizing m with
 |nil=>intro w hw;simp[stay]at hw
 |cons x q c0=>
  simp only[List.map_cons,List.nodup_cons]at az
  have bp:∀y∈q,y.h≠x.h:=fun y ai e=>az.1 (e▸List.mem_map_of_mem (f:=gm.h) ai)
  intro w hw
  simp only[ck.cX,List.foldl_cons]
  by_cases aj:x.ws=[]
  .rw[if_pos aj]
   have hb:w∈stay q:=by simpa[stay,aj]using hw
   exact c0 az.2 (fun y ai=>Kf (bp y ai) (bd y (by simp[ai]))) w hb
  .rw[if_neg aj]
   simp only[stay,List.mem_filter,List.mem_cons]at hw
   rcases hw with⟨rfl|hw,U⟩
   .exact Rh (bd w aM) bp
   .exact c0 az.2 (fun y ai=>bd y (by simp[ai])) w (List.mem_filter.2 ⟨hw,U⟩)
def aE.cX(s:aE)(bC:V):aE:={s with m:=s.m.cX s.queue,queue:=stay s.queue,bC:=bC}
variable{α:Type}{A:h3 α}{g:G}{n:Nat}{a:α}{K:cj α}{s:aE}
theorem asq(h:iE g s)(ap:bm g n)
 (ah:∀g' n' v bC,n<=n'->iE g' (s.cX bC)->(∀b,b<n->b∉s.own->g' b=g b)->K v g' n' a):aR A bA 36 [.ptr s.ar 0] g n a K:=by
 have ds:=h.ds
 have kI:=h.aw
 have o':=ap _ _ kI
 have tx:=ap _ _ h.aC
 have aB:=h.av.plain
 have told:=h.told ap
 refine bE i36 fun N aF=>?_
 have Gz:n1 (a1 (a1 g n (.al false [.ptr s.ar 0])) (n+1) (.al false [.br])) s.an s.lb s.ar n (n+1) s.dS s.hq s.bC s.fl s.queue s.m .br 0 [] []:=by
  have e:∀b,b<n->(a1 (a1 g n (.al false [.ptr s.ar 0])) (n+1) (.al false [.br])) b=g b:=fun b ad=>by rw[bJ,if_neg I,bJ,if_neg I]
  have kN:=ap _ _ h.hm.hm
  refine⟨h.hm.b6 (e _ kN) (e _ (ap _ _ h.hm.aA)) fun r ak=>e _ (ap _ _ (h.hm.ak r ak)),dW,dW,h6.nil,by rw[e _ o'];exact kI,fun w hw=>by rw[e _ (ap _ _ (h.hw w hw))];exact h.hw w hw,⟨I,I,ds.i'.symm,aM,aM,aM,I,I,fun r ak=>⟨aM,?_⟩⟩,⟨aM,aM,fun w hw=>⟨aM,(ds.w w hw).2.1⟩⟩,fun b ad=>?_⟩
  .have:=ap _ _ (h.hm.ak r ak);omega
  .have eN:=h.av.lt ap b ad
   obtain⟨f1,f2,f3,f4⟩:=ds.f b ad
   exact⟨f1,f2,I,aM,I,f3,fun r ak e=>(ds.r r ak).2.2.2.2.1 (e▸ad)⟩
 have rF:bm (a1 (a1 g n (.al false [.ptr s.ar 0])) (n+1) (.al false [.br])) (n+2):=(ap.new (Nat.le_refl _) _).new (Nat.le_refl _) _
 refine aL O8 (cc kI (dF o') (gS o') aB.2.2.2.1) ?_
 have K2:h6 (a1 (a1 g n (.al false [.ptr s.ar 0])) (n+1) (.al false [.br])) 2 s.bC s.queue.length (ja s.queue) s.fl:=h.av.b6 fun b ad=>by
  have:=h.av.lt ap b ad
  rw[bJ,if_neg I,bJ,if_neg I]
 refine aw1 Gz K2 (rF.mono I) h.bd h.tF (by have:=h.oj;omega) fun g' n' c_ nC a9 hy mG az eK fT mK vQ=>?_
 intro dm
 have c5:=eK.aw
 have eV:=fT.plain
 have hr:=eK.hr
 have g2:=eK.g2
 have aCN:=dm _ _ g2
 have RD:=eK.aV.plain
 have gc:(s.ar=n+1)=False:=by simp;omega
 refine aL (aN ad9.eq_1 O8) (jO c5 hr g2 @RN gc eV.2.1 eV.2.2.2.2 RD.2.1 RD.2.2.2.2) ?_
 apply aF
 refine a6 i36.eq_1 ?_
 intro _
 have g8:∀b,b<n->b≠s.ar->(a1 (a1 g' s.ar (.al false [.ptr s.an 0,.int .i64 s.hq,.map s.dS,c_])) (n+1) (.al false [nC])) b=g' b:=fun b ad U=>by
  rw[bJ,if_neg I,bJ,if_neg (fun e=>U e.symm)]
 have Kc:∀b,b<n->b≠s.an->b≠s.lb->b∉s.fl->g' b=g b:=fun b ad J U aq=>by
  rw[mK b I J U I aM aq,bJ,if_neg I,bJ,if_neg I]
 have rI:∀r∈(s.m.cX s.queue).live,r∈s.m.live:=fun r ak=>(Nv s.queue s.m).subset ak
 have kN:=ap _ _ h.hm.hm
 have mR:=ap _ _ h.hm.aA
 refine .all (ah _ _ _ c_ I ⟨?_,?_,?_,?_,fun w hw=>?_,?_,h.uW,?_,?_,?_,?_⟩ fun b ad hV=>?_)
 .refine eK.hm.b6 (g8 _ kN ds.i') (g8 _ mR ds.tw) fun r ak=>?_
  have ke:=rI r ak
  exact g8 _ (ap _ _ (h.hm.ak r ke)) (ds.r r ke).2.2.1
 .simp only[aE.cX]
  rw[bJ,if_neg I,bJ,if_pos rfl]
 .simp only[aE.cX]
  rw[g8 _ tx ds.s_.symm,Kc _ tx ds.sH.symm ds.jk.symm (fun ad=>(ds.f _ ad).2.2.2 rfl)]
  exact h.aC
 .exact fT.b6 fun b ad=>g8 b (h.av.lt ap b ad) (ds.f b ad).2.2.1
 .have hb:w∈s.queue:=(List.mem_filter.1 hw).1
  have lw:=ap _ _ (h.hw w hb)
  obtain⟨f1,f2,f3,f4,f5⟩:=ds.w w hb
  rw[g8 _ lw f3,Kc _ lw f1 f2 f5]
  exact h.hw w hb
 .have qc:List.Sublist (s.cX c_).own s.own:=by
   simp only[aE.own,aE.cX]
   refine .cons_cons _ (.cons_cons _ (.cons_cons _ (.cons_cons _ (List.Sublist.append (List.Sublist.refl _) (List.Sublist.append (List.Sublist.map _ List.filter_sublist) (List.Sublist.map _ (Nv _ _)))))))
  exact h.de.sublist qc
 .exact fun w hw=>h.tH w (List.mem_filter.1 hw).1
 .exact ay8 h.tF h.bd
 .exact h.tF.sublist (List.Sublist.map _ List.filter_sublist)
 .have:=List.length_filter_le (fun w:gm=> !w.ws.isEmpty) s.queue
  have:=h.oj
  simp only[aE.cX,stay];omega
 .have bp:∀x∈s.own,b≠x:=fun x aj e=>hV (e▸aj)
  rw[g8 b ad (bp _ (fb.2 aM)),Kc b ad (bp _ (fb.2 aM)) (bp _ (fb.2 aM)) (fun aV=>hV (fb.2 (by simp[aV])))]
theorem aIZ(h:iE g s)(ah:∀n',n<=n'->K (.int .i64 s.queue.length) g n' a):aR A bA 19 [.ptr s.ar 0] g n a K:=by
 have kI:=h.aw
 have aB:=h.av.plain
 have aA:=h.av.oI
 refine bE i19 fun N aF=>?_
 refine aL auu (aN kI aA) ?_
 apply aF
 refine a6 i19.eq_1 ?_
 exact fun az=>.all (ah _ az)
theorem avu(h:iE g s)(ah:∀n',n<=n'->K (.int .i64 s.m.ry) g n' a):aR A bA 20 [.ptr s.an 0] g n a K:=by
 have nb:=h.hm.hm
 simp only[ck.cells]at nb
 refine bE i20 fun N aF=>?_
 refine aL auv nb ?_
 apply aF
 refine a6 i20.eq_1 ?_
 exact fun az=>.all (ah _ az)
theorem JP{l:List Int}{x:Int}:kF (.int .i64 x) (ki l)=some (if x∈l then some (.bool true)else none):=by
 simp only[kF]
 rw[if_pos (by simp[l1,ki])]
 congr 1
 induction l with
 |nil=>rfl
 |cons y l c0=>
  simp only[ki,List.map_cons,kG,l1,if_true]
  by_cases e:x=y
  .subst e;simp
  .rw[if_neg (by simpa using e)]
   simp only[List.mem_cons,e,false_or]
   exact c0
theorem aHz{l:List Int}{x:Int}(h:x∉l):nR (.int .i64 x) (.bool true) (ki l)=ki (l++[x]):=by
 induction l with
 |nil=>rfl
 |cons y l c0=>
  simp only[List.mem_cons,not_or]at h
  simp only[ki,List.map_cons,nR,l1,if_true,List.cons_append]
  rw[if_neg (by simpa using h.1)]
  congr 1
  exact c0 h.2
theorem Ql{l:List Int}{x:Int}:mE (.int .i64 x) (ki l)=ki (l.erase x):=by
 induction l with
 |nil=>rfl
 |cons y l c0=>
  simp only[ki,List.map_cons,mE,l1,if_true]
  by_cases e:x=y
  .subst e;simp
  .rw[if_neg (by simpa using e),List.erase_cons_tail (by simpa using fun ee:y=x=>e ee.symm),List.map_cons]
   congr 1
def aE.enter(s:aE)(x:Int):aE:={s with inside:=s.inside++[x]}
theorem axh(h:iE g s){x:Int}(qd:0<=x)(nh:x<s.hq)(aj:x∉s.inside)
 (ah:∀g' n',n<=n'->iE g' (s.enter x)->(∀b,b∉s.own->g' b=g b)->K (.bool true) g' n' a):aR A bA 11 [.ptr s.ar 0,.int .i64 x] g n a K:=by
 have kI:=h.aw
 have ti:=h.aC
 have ds:=h.ds
 have c1:¬x<0:=I
 have c2:¬s.hq<=x:=I
 have aV:=JP (l:=s.inside) (x:=x)
 rw[if_neg aj]at aV
 have K9:=aHz aj
 refine bE i11 fun N aF=>?_
 refine aL aui (d' kI ti c1 c2 aV K9) ?_
 apply aF
 refine a6 i11.eq_1 ?_
 intro az
 have he:∀b,b≠s.dS->(a1 g s.dS (.mp false (ki (s.inside++[x])))) b=g b:=fun b ad=>by rw[bJ,if_neg (fun e=>ad e.symm)]
 refine .all (ah _ _ az ⟨?_,?_,?_,?_,fun w hw=>?_,h.de,?_,h.tH,h.bd,h.tF,h.oj⟩ fun b ad=>?_)
 .exact h.hm.b6 (he _ ds.sH) (he _ ds.jk) fun r ak=>he _ (ds.r r ak).2.2.2.1
 .exact(he _ ds.s_).trans kI
 .simp only[aE.enter];rw[bJ,if_pos rfl]
 .exact h.av.b6 fun b ad=>he _ (ds.f b ad).2.2.2
 .exact(he _ (ds.w w hw).2.2.2.1).trans (h.hw w hw)
 .simp only[aE.enter]
  rw[List.nodup_append]
  refine⟨h.uW,aM,fun y ai z bB e=>?_⟩
  simp only[List.mem_singleton]at bB
  exact aj (bB▸e▸ai)
 .exact he _ fun e=>ad (fb.2 (by simp[e]))
end
section
variable{α:Type}{A:h3 α}{g:G}{n:Nat}{a:α}{K:cj α}{s:aE}
def k0(x:Int)(w:gm):gm:={w with ws:=w.ws.erase x}
def aE.gone(s:aE)(x:Int)(k:Nat):aE:={s with inside:=s.inside.erase x,queue:=(s.queue.take k).map (k0 x)++s.queue.drop k}
def aE.out(s:aE)(x:Int):aE:={s with inside:=s.inside.erase x,queue:=s.queue.map (k0 x)}
theorem QF(x:Int)(q:List gm)(k:Nat):ja ((q.take k).map (k0 x)++q.drop k)=ja q:=by
 have:∀l:List gm,ja (l.map (k0 x))=ja l:=fun l=>by
  induction l with
  |nil=>rfl
  |cons w l c0=>rw[List.map_cons,z1,z1,c0];rfl
 rw[Mr,this,<-Mr,List.take_append_drop]
theorem axo(x:Int)(q:List gm)(k:Nat):((q.take k).map (k0 x)++q.drop k).map (·.b)=q.map (·.b):=by
 rw[List.map_append,List.map_map]
 have:(fun w:gm=>w.b)∘k0 x=fun w=>w.b:=rfl
 rw[this,<-List.map_append,List.take_append_drop]
theorem axp(x:Int)(q:List gm)(k:Nat):((q.take k).map (k0 x)++q.drop k).map (·.h)=q.map (·.h):=by
 rw[List.map_append,List.map_map]
 have:(fun w:gm=>w.h)∘k0 x=fun w=>w.h:=rfl
 rw[this,<-List.map_append,List.take_append_drop]
theorem JH(x:Int)(q:List gm)(k:Nat):((q.take k).map (k0 x)++q.drop k).length=q.length:=by
 rw[List.length_append,List.length_map,<-List.length_append,List.take_append_drop]
theorem Ek(s:aE)(x:Int)(k:Nat):(s.gone x k).own=s.own:=by
 simp only[aE.own,aE.gone,axo]
theorem JV(s:aE)(x:Int):s.gone x s.queue.length=s.out x:=by
 simp only[aE.gone,aE.out,List.take_length,List.drop_length,List.append_nil]
theorem aLr{x:Int}{q:List gm}{k:Nat}{w:gm}(h:w∈(q.take k).map (k0 x)++q.drop k):∃w0∈q,w.b=w0.b/\w.h=w0.h/\(w.ws=w0.ws\/w.ws=w0.ws.erase x):=by
 rcases List.mem_append.1 h with h|h
 .obtain⟨w0,Lg,rfl⟩:=List.mem_map.1 h
  exact⟨w0,List.mem_of_mem_take Lg,rfl,rfl,.inr rfl⟩
 .exact⟨w,List.mem_of_mem_drop h,rfl,rfl,.inl rfl⟩
theorem aym{x:Int}{k:Nat}(h:iE g (s.gone x k))(ah:k<s.queue.length):iE (a1 g s.queue[k].b (.mp false (ki (s.queue[k].ws.erase x)))) (s.gone x (k+1)):=by
 have ds:=h.ds
 have rI:s.queue[k]∈(s.gone x k).queue:=by
  simp only[aE.gone,List.mem_append]
  refine .inr ?_
  rw[List.drop_eq_getElem_cons ah];exact List.mem_cons_self
 obtain⟨f1,f2,f3,f4,f5⟩:=ds.w _ rI
 have he:∀b,b≠s.queue[k].b->(a1 g s.queue[k].b (.mp false (ki (s.queue[k].ws.erase x)))) b=g b:=fun b ad=>by rw[bJ,if_neg (fun e=>ad e.symm)]
 have aD:(s.gone x (k+1)).queue=(s.queue.take k).map (k0 x)++k0 x s.queue[k]::s.queue.drop (k+1):=by
  simp only[aE.gone]
  rw[List.take_succ_eq_append_getElem ah,List.map_append,List.append_assoc];rfl
 have cZ:(s.gone x k).queue=(s.queue.take k).map (k0 x)++s.queue[k]::s.queue.drop (k+1):=by
  simp only[aE.gone]
  rw[List.drop_eq_getElem_cons ah]
 have dc:((s.gone x k).queue.map (·.b)).Nodup:=by
  have:=h.de
  simp only[aE.own,List.nodup_cons,List.nodup_append]at this
  exact this.2.2.2.2.2.1.1
 have R9:∀w∈(s.queue.take k).map (k0 x)++s.queue.drop (k+1),w.b≠s.queue[k].b:=by
  intro w hw e
  rw[cZ,List.map_append,List.map_cons,List.nodup_append]at dc
  obtain⟨bq,aT,cq⟩:=dc
  rcases List.mem_append.1 hw with hw|hw
  .exact cq w.b (D4 hw) s.queue[k].b aM e
  .rw[List.nodup_cons]at aT
   exact aT.1 (e▸D4 (f:=gm.b) hw)
 refine⟨h.hm.b6 (he _ f1.symm) (he _ f2.symm) fun r ak=>he _ ((ds.r r ak).2.2.2.2.2 _ rI),(he _ f3.symm).trans h.aw,(he _ f4.symm).trans h.aC,?_,fun w hw=>?_,?_,h.uW,?_,?_,?_,?_⟩
 .have:=h.av.b6 (g':=a1 g s.queue[k].b (.mp false (ki (s.queue[k].ws.erase x)))) fun b ad=>he b fun e=>f5 (e▸ad)
  simp only[aE.gone,QF,JH]at this |-
  exact this
 .rw[aD]at hw
  rcases List.mem_append.1 hw with hw|hw
  .rw[he _ (R9 w (List.mem_append.2 (.inl hw)))]
   exact h.hw w (by rw[cZ];exact List.mem_append.2 (.inl hw))
  .rcases List.mem_cons.1 hw with rfl|hw
   .simp only[k0];rw[bJ,if_pos rfl]
   .rw[he _ (R9 w (List.mem_append.2 (.inr hw)))]
    exact h.hw w (by rw[cZ];exact List.mem_append.2 (.inr (List.mem_cons_of_mem _ hw)))
 .rw[Ek];have:=h.de;rw[Ek]at this;exact this
 .intro w hw
  rw[aD]at hw
  rcases List.mem_append.1 hw with hw|hw
  .exact h.tH w (by rw[cZ];exact List.mem_append.2 (.inl hw))
  .rcases List.mem_cons.1 hw with rfl|hw
   .exact(h.tH _ rI).erase x
   .exact h.tH w (by rw[cZ];exact List.mem_append.2 (.inr (List.mem_cons_of_mem _ hw)))
 .intro w hw
  rw[aD]at hw
  rcases List.mem_append.1 hw with hw|hw
  .exact h.bd w (by rw[cZ];exact List.mem_append.2 (.inl hw))
  .rcases List.mem_cons.1 hw with rfl|hw
   .show s.m.has s.queue[k].h
    exact h.bd s.queue[k] rI
   .exact h.bd w (by rw[cZ];exact List.mem_append.2 (.inr (List.mem_cons_of_mem _ hw)))
 .have:=h.tF
  simp only[aE.gone,axp]at this |-;exact this
 .have:=h.oj
  simp only[aE.gone,JH]at this |-;exact this
theorem iE.erase0(h:iE g s)(x:Int):iE (a1 g s.dS (.mp false (ki (s.inside.erase x)))) (s.gone x 0):=by
 have ds:=h.ds
 have he:∀b,b≠s.dS->(a1 g s.dS (.mp false (ki (s.inside.erase x)))) b=g b:=fun b ad=>by rw[bJ,if_neg (fun e=>ad e.symm)]
 have cZ:s.gone x 0={s with inside:=s.inside.erase x}:=by simp[aE.gone]
 rw[cZ]
 exact⟨h.hm.b6 (he _ ds.sH) (he _ ds.jk) fun r ak=>he _ (ds.r r ak).2.2.2.1,(he _ ds.s_).trans h.aw,by rw[bJ,if_pos rfl],h.av.b6 fun b ad=>he _ (ds.f b ad).2.2.2,fun w hw=>(he _ (ds.w w hw).2.2.2.1).trans (h.hw w hw),h.de,h.uW.erase x,h.tH,h.bd,h.tF,h.oj⟩
theorem DT(h:iE g s)(ap:bm g n){x:Int}(aj:x∈s.inside)
 (ah:∀g' n' v bC,n<=n'->iE g' ((s.out x).cX bC)->(∀b,b<n->b∉s.own->g' b=g b)->K v g' n' a):aR A bA 16 [.ptr s.ar 0,.int .i64 x] g n a K:=by
 have kI:=h.aw
 have ti:=h.aC
 have ds:=h.ds
 have aV:=JP (l:=s.inside) (x:=x)
 rw[if_pos aj]at aV
 have tl:=h.av.oI
 have aBy:(s.dS=s.ar)=False:=by simp;exact ds.s_.symm
 refine bE i16 fun N aF=>?_
 refine aL Fq (d' kI ti aV @Ql aBy tl) ?_
 have Ud:=Ek s x
 refine qp (fun eX t ba aT b7=>∃k,eX=s.queue.length-k/\k<=s.queue.length/\n<=aT/\b7=a/\iE ba (s.gone x k)/\bm ba aT/\(∀b,b<n->b∉s.own->ba b=g b)/\aW t (.t 0)= .ptr s.ar 0/\aW t (.t 1)= .int .i64 x/\aW t (.t 22)=s.bC/\aW t (.t 23)= .int .i64 s.queue.length/\aW t (.t 24)= .int .i64 k) s.queue.length ⟨0,I,I,Nat.le_refl _,rfl,h.erase0 x,ap.a1 (ap _ _ ti) _,fun b _ ad=>by rw[bJ,if_neg (fun e=>ad (fb.2 (by simp[<-e])))],dW,dW,dW,dW,bD @Int.natCast_zero⟩ ?_
 rintro eX t ba aT b7 ⟨k,rfl,e0,cB,rfl,dJ,jz,hg,cZ,aD,Qp,Qq,Qr⟩
 by_cases gg:k<s.queue.length
 .have c1:(k:Int)< (s.queue.length:Int):=I
  have dd:(0:Int)<=(k:Int):=I
  have sw:=h.oj
  have dA:IntKind.wrap .i64 ((k:Int)+1)=((k+1:Nat):Int):=by rw[wrap_i64 I I];omega
  have oc:h6 ba 2 s.bC s.queue.length (ja s.queue) s.fl:=by have:=dJ.av;simp only[aE.gone,QF,JH]at this;exact this
  obtain⟨b,o,cap,aAN,cE,tk⟩:=Mq oc gg
  simp only[ni,if_true,Nat.add_assoc]at tk
  have rI:s.queue[k]∈(s.gone x k).queue:=by
   simp only[aE.gone,List.mem_append]
   refine .inr ?_
   rw[List.drop_eq_getElem_cons gg];exact List.mem_cons_self
  have uL:=dJ.hw _ rI
  have zJ:=jz _ _ uL
  refine aL Fq (bs cZ aD Qp Qq Qr aAN c1 dd dA @Int.toNat_natCast tk (eW uL @Ql @JP (dF zJ) (gS zJ))) ?_
  have hV:∀b,b∈s.own->b<aT:=fun b ad=>dJ.told jz b (by rw[Ud];exact ad)
  refine⟨s.queue.length- (k+1),I,k+1,rfl,I,I,(aym dJ gg).b6 fun b ad=>?_,((jz.new (Nat.le_refl _) _).a1 I _).a1 I _,fun b ad bI=>?_,rfl⟩
  .rw[Ud]at ad
   have:=hV b ad
   by_cases e:s.queue[k].b=b
   .simp only[bJ,e,if_true]
   .have aD:¬aT=b:=I
    simp only[bJ,e,aD,if_false]
  .have e:¬s.queue[k].b=b:=fun e=>bI (fb.2 (by rw[<-e];exact .inr (.inr (.inr (.inr (.inr (.inl ⟨_,List.getElem_mem gg,rfl⟩)))))))
   have aD:¬aT=b:=I
   simp only[bJ,e,aD,if_false]
   exact hg b ad bI
 .have Gq:k=s.queue.length:=I
  subst Gq
  rw[JV]at dJ
  refine aL Fq (d' cZ aD Qp Qq Qr @Int.lt_irrefl) ?_
  have:s.ar=(s.out x).ar:=rfl
  rw[this]
  refine asq dJ jz fun fH cq v bC iJ pt azP=>?_
  intro rG
  refine dl (aN adC.eq_1 Fq) ?_
  apply aF
  refine a6 i16.eq_1 ?_
  intro _
  refine .all (ah _ _ _ bC I pt fun b ad bI=>?_)
  have au:(s.out x).own=s.own:=by rw[<-JV,Ek]
  rw[azP b I (by rw[au];exact bI),hg b ad bI]
end
