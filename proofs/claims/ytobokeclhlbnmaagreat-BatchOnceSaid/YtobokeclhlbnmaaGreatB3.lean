/- Part of the proof of BatchOnce, for every input. -/
import Derived.Test.YtobokeclhlbnmaaGreatB2
set_option linter.all false
namespace Go.Proofs.Run
open Go Go.Abs
attribute [local irreducible] b9 cI cr cg aR
set_option maxRecDepth 100000
set_option maxHeartbeats 4000000
section
variable{α:Type}{A:h3 α}{g:G}{n:Nat}{a:α}{K:cj α}{s:aE}
theorem awP{r:Nat}{es:List (V×V)}(h:g r=some (.mp false es))(ah:K (.map n) (a1 g n (.mp false es)) (n+1) a):aR A bA 330 [.map r] g n a K:=by
 unfold aR
 intro σ aa
 have ak:σ.get r=some (.map false es):=(aa.at_ r _ h).2
 have az:=aa.next
 refine F5 (v:=.map n) (σ':=σ.new (.map false es)) ?_ ⟨_,_,a,Nat.le_succ n,aa.new (c:=.mp false es) (by show(σ.new _).get n=_;rw[pZ,if_pos az]),ah⟩
 simp only[yc,if_true,CB,ak,az]
theorem axm{c yj:Nat}{x y:Int}(h:g c=some (.al false [.int .i64 y]))(ap:bm g n)(ah:∀n',n<=n'->K (.bool (x==y)) g n' a):aR A bA 329 ([]++[.agg [.int .i64 x,.map yj]]++[.ptr c 0]) g n a K:=by
 have sE:=ap _ _ h
 refine bE i329 fun N aF=>?_
 refine aL auR (cw h (dF sE) (gS sE)) ?_
 apply aF
 refine a6 i329.eq_1 ?_
 intro az
 refine⟨g,fun b d ad=>?_,ah _ az⟩
 have:=ap _ _ ad
 rw[bJ,if_neg I];exact ad
theorem awU{bC:V}{q:List gm}{fl:List Nat}{c:Nat}{y:Int}(av:h6 g 2 bC q.length (ja q) fl)(aA:q.length<1000000)(h:g c=some (.al false [.int .i64 y]))(ap:bm g n)(ah:∀n',n<=n'->K (.bool (decide (∃w∈q,w.h=y))) g n' a):
 aR A bA 328 [bC,.fn (.func 329) [] [.ptr c 0]] g n a K:=by
 refine bE i328 fun N aF=>?_
 refine dl IP ?_
 refine Sx (fl:=fl) (q:=q) (fun i g' n' a'=>g'=g/\a'=a/\n<=n'/\∀j (ax:j<q.length),j<i->q[j].h≠y) (fun i g' n' a'=>g'=g/\a'=a/\n<=n'/\∃aC:i<q.length,q[i].h=y) aA ⟨rfl,rfl,Nat.le_refl _,by intros;omega⟩ (by rintro i g' n' a' ⟨rfl,_⟩;exact av) ?_ ?_ ?_
 .rintro i aC g' n' a' pN az ⟨rfl,rfl,oF,aB⟩ iM jj
  refine axm h (ap.mono I) fun aT cB=>?_
  by_cases e:q[i].h=y
  .have:(q[i].h==y)=true:=by simpa using e
   rw[this]
   exact jj _ _ _ cB ⟨rfl,rfl,I,aC,e⟩
  .have:(q[i].h==y)=false:=by simpa using e
   rw[this]
   refine iM _ _ _ cB ⟨rfl,rfl,I,fun j ax KH=>?_⟩
   by_cases KI:j<i
   .exact aB j ax KI
   .have:j=i:=I
    subst this;exact e
 .rintro g' n' a' az ⟨rfl,rfl,oF,aB⟩
  intro cf
  have dy:¬ ∃w∈q,w.h=y:=by
   rintro⟨w,hw,e⟩
   obtain⟨j,ax,rfl⟩:=List.getElem_of_mem hw
   exact aB j ax ax e
  have gg:=ah n' oF
  rw[decide_eq_false dy]at gg
  refine dl (aN MN.eq_1 IP) ?_
  apply aF
  refine a6 i328.eq_1 ?_
  exact fun _=>.all gg
 .rintro i g' n' a' az aC ⟨rfl,rfl,oF,_,e⟩
  intro cf
  have gg:=ah n' oF
  rw[decide_eq_true (⟨_,List.getElem_mem aC,e⟩:∃w∈q,w.h=y)]at gg
  have dd:(0:Int)<=(i:Int):=I
  refine aL (aN MN.eq_1 IP) dd ?_
  apply aF
  refine a6 i328.eq_1 ?_
  exact fun _=>.all gg
theorem Lq{s:aE}{b:Nat}(h:b∈s.fl):b∈s.own:=fb.2 (.inr (.inr (.inr (.inr (.inl h)))))
theorem TC{s:aE}(ds:s.Fe)(aV:s.fl.Nodup)(Ba:(s.queue.map (·.b)).Nodup)(qW:(s.m.live.map (·.b)).Nodup):s.own.Nodup:=by
 simp only[aE.own,List.nodup_cons,List.mem_cons,List.mem_append,not_or,List.nodup_append,List.mem_map,not_exists,not_and]
 refine⟨⟨ds.q0,ds.i',ds.sH,fun ad=>(ds.f _ ad).1 rfl,fun w hw e=>(ds.w w hw).1 e,fun r ak e=>(ds.r r ak).1 e⟩,⟨ds.tw,ds.jk,fun ad=>(ds.f _ ad).2.1 rfl,fun w hw e=>(ds.w w hw).2.1 e,fun r ak e=>(ds.r r ak).2.1 e⟩,⟨ds.s_,fun ad=>(ds.f _ ad).2.2.1 rfl,fun w hw e=>(ds.w w hw).2.2.1 e,fun r ak e=>(ds.r r ak).2.2.1 e⟩,⟨fun ad=>(ds.f _ ad).2.2.2 rfl,fun w hw e=>(ds.w w hw).2.2.2.1 e,fun r ak e=>(ds.r r ak).2.2.2.1 e⟩,aV,⟨Ba,qW,?_⟩,?_⟩
 .rintro x ⟨w,hw,rfl⟩ y ⟨r,ak,rfl⟩ e
  exact(ds.r r ak).2.2.2.2.2 w hw e.symm
 .rintro x aj y (⟨w,hw,rfl⟩|⟨r,ak,rfl⟩) e
  .exact(ds.w w hw).2.2.2.2 (e▸aj)
  .exact(ds.r r ak).2.2.2.2.1 (e▸aj)
def aE.push(s:aE)(h:Int)(b:Nat)(bC:V)(fl:List Nat):aE:={s with queue:=s.queue++[⟨h,b,s.inside⟩],bC:=bC,fl:=fl}
theorem awZ(h:iE g s)(ap:bm g n){x:Int}{r:gY}(ak:r∈s.m.live)(aj:r.h=x)(av:∀w∈s.queue,w.h≠x)(sw:s.queue.length<40000)
 (ah:∀g' n' v b bC fl c_,n<=n'->iE g' ((s.push x b bC fl).cX c_)->(∀b,b<n->b∉s.own->g' b=g b)->(∀y∈(s.push x b bC fl).own,y∈s.own\/n<=y)->K v g' n' a):aR A bA 288 [.ptr s.ar 0,.int .i64 x] g n a K:=by
 subst aj
 have kI:=h.aw
 have ti:=h.aC
 have ds:=h.ds
 have o':=ap _ _ kI
 have tx:=ap _ _ ti
 have aB:=h.av.plain
 have A2:iE (a1 g n (.al false [.int .i64 r.h])) s:=h.b6 fun b ad=>by have:=h.told ap b ad;rw[bJ,if_neg I]
 have aAq:bm (a1 g n (.al false [.int .i64 r.h])) (n+1):=ap.new (Nat.le_refl _) _
 have xN:¬(r.ws.length:Int)=0:=by have:=h.hm.pos r ak;omega
 have K1:((r.ws.length:Int)==0)=false:=by simpa using xN
 have dy:decide (∃w∈s.queue,w.h=r.h)=false:=decide_eq_false (by rintro⟨w,hw,e⟩;exact av w hw e)
 refine bE i288 fun N aF=>?_
 refine aL Cm (d' kI ti (dF o') (gS o') (dF tx) (gS tx)) ?_
 refine aHI A2.hm ak fun aT cB=>?_
 intro jz
 refine aL (aN adT.eq_1 Cm) (ji K1 xN kI ti (dF o') (gS o') (dF tx) (gS tx) aB.2.2.2.1 xN) ?_
 refine awU A2.av (by have:=h.oj;omega) (by rw[bJ,if_pos rfl]) (aAq.mono I) fun cq iJ=>?_
 intro rG
 rw[dy]
 have nK:=rG _ _ A2.aw
 have qg:=rG _ _ A2.aC
 have pz:n<cq:=I
 refine aL (aN adS.eq_1 Cm) (bs K1 xN kI ti (dF o') (gS o') (dF tx) (gS tx) aB.2.2.2.1 (pM nK) (pM qg) (pM pz)) ?_
 have told:=h.told ap
 have aKV:bm (a1 g n (.al false [.int .i64 r.h])) cq:=rG
 refine awP (r:=s.dS) (es:=ki s.inside) (by rw[xM qg];exact A2.aC) ?_
 intro aAn
 refine⟨by simp only[Gs,A7],?_⟩
 have tj:∀b,b<cq->(a1 (a1 (lF (a1 g n (.al false [.int .i64 r.h])) cq 17) (cq+17) (.mp false (ki s.inside))) (cq+12) (.al false [.int .i64 r.h,.map (cq+17)])) b=a1 g n (.al false [.int .i64 r.h]) b:=fun b ad=>by
  rw[bJ,if_neg I,bJ,if_neg I,xM ad]
 have jM:iE (a1 (a1 (lF (a1 g n (.al false [.int .i64 r.h])) cq 17) (cq+17) (.mp false (ki s.inside))) (cq+12) (.al false [.int .i64 r.h,.map (cq+17)])) s:=A2.b6 fun b ad=>tj b (by have:=told b ad;omega)
 have rH:bm (a1 (a1 (lF (a1 g n (.al false [.int .i64 r.h])) cq 17) (cq+17) (.mp false (ki s.inside))) (cq+12) (.al false [.int .i64 r.h,.map (cq+17)])) (cq+18):=aAn.a1 I _
 obtain⟨nU,xp,He,fl',y4,hle,oc,mK,cE,aAo⟩:=jM.av.append rH (x:=.slice (cq+12) 0 1 1 2) (k:=1) (new:=[.int .i64 r.h,.map (cq+17)]) (bytes:=16) (as8) rfl rfl I I
 have Sl:=oc.plain
 have qU:∀b∈s.own,b∉s.fl->xp b=g b:=fun b ad aV=>by
  have:=told b ad
  rw[mK b I aV,tj b I,bJ,if_neg I]
 have aD:xp s.ar=some (.al false [.ptr s.an 0,.int .i64 s.hq,.map s.dS,s.bC]):=(qU _ (fb.2 aM) (fun ad=>(ds.f _ ad).2.2.1 rfl)).trans kI
 have cR:(cq+17=cq+12)=False:=aM
 refine aL (aN adU.eq_1 Cm) (bs K1 xN kI ti (dF o') (gS o') (dF tx) (gS tx) aB.2.2.2.1 (dF nK) (gS nK) (jO (dF pz) (gS pz) (pM nK) (pM qg) (pM pz) y4 aD Sl.2.1 Sl.2.2.2.2)) ?_
 have Q_:kB cq 17 xp:=kB.b6 (g:=a1 (a1 (lF (a1 g n (.al false [.int .i64 r.h])) cq 17) (cq+17) (.mp false (ki s.inside))) (cq+12) (.al false [.int .i64 r.h,.map (cq+17)])) (by simp only[Gs,A7]) fun j ax=>mK _ I fun ad=>by have:=told _ (Lq ad);omega
 refine⟨Q_,Q_.a1 _ _,?_⟩
 have vR:∀b∈s.own,b∉s.fl->b≠s.ar->(a1 xp s.ar (.al false [.ptr s.an 0,.int .i64 s.hq,.map s.dS,nU])) b=g b:=fun b ad aV bp=>by
  rw[bJ,if_neg (fun e=>bp e.symm)];exact qU b ad aV
 have nH:∀b,n<=b->b<cq+18->xp b=(a1 (a1 (lF (a1 g n (.al false [.int .i64 r.h])) cq 17) (cq+17) (.mp false (ki s.inside))) (cq+12) (.al false [.int .i64 r.h,.map (cq+17)])) b:=fun b ad bI=>mK b bI fun aV=>by have:=told _ (Lq aV);omega
 have th:∀b∈fl',b≠s.an/\b≠s.lb/\b≠s.ar/\b≠s.dS/\b≠cq+17/\(∀w∈s.queue,w.b≠b)/\∀r∈s.m.live,r.b≠b:=by
  intro b ad
  have mm:=told s.an (fb.2 aM)
  have iZ:=told s.lb (fb.2 aM)
  rcases cE b ad with ay|ay
  .obtain⟨f1,f2,f3,f4⟩:=ds.f b ay
   have:=told b (fb.2 (by simp[ay]))
   exact⟨f1,f2,f3,f4,I,fun w hw e=>(ds.w w hw).2.2.2.2 (e▸ay),fun r ak e=>(ds.r r ak).2.2.2.2.1 (e▸ay)⟩
  .refine⟨I,I,I,I,I,fun w hw e=>?_,fun r ak e=>?_⟩
   .have:=ap _ _ (h.hw w hw);omega
   .have:=ap _ _ (h.hm.ak r ak);omega
 have yW:iE (a1 xp s.ar (.al false [.ptr s.an 0,.int .i64 s.hq,.map s.dS,nU])) (s.push r.h (cq+17) nU fl'):=by
  refine⟨?_,?_,?_,?_,fun w hw=>?_,?_,h.uW,fun w hw=>?_,fun w hw=>?_,?_,?_⟩
  .exact h.hm.b6 (vR _ (fb.2 (.inl rfl)) (fun ad=>(ds.f _ ad).1 rfl) ds.i') (vR _ (fb.2 (.inr (.inl rfl))) (fun ad=>(ds.f _ ad).2.1 rfl) ds.tw) fun x aj=>vR _ (fb.2 (.inr (.inr (.inr (.inr (.inr (.inr ⟨x,aj,rfl⟩))))))) (ds.r x aj).2.2.2.2.1 (ds.r x aj).2.2.1
  .simp only[aE.push];rw[bJ,if_pos rfl]
  .exact(vR _ (fb.2 (.inr (.inr (.inr (.inl rfl))))) (fun ad=>(ds.f _ ad).2.2.2 rfl) ds.s_.symm).trans ti
  .have:=oc.b6 (g':=a1 xp s.ar (.al false [.ptr s.an 0,.int .i64 s.hq,.map s.dS,nU])) fun b ad=>by rw[bJ,if_neg (fun e=>(th b ad).2.2.1 e.symm)]
   simp only[aE.push,List.length_append,List.length_singleton,Mr]
   exact this
  .simp only[aE.push,List.mem_append,List.mem_singleton]at hw
   rcases hw with hw|rfl
   .rw[vR _ (fb.2 (.inr (.inr (.inr (.inr (.inr (.inl ⟨w,hw,rfl⟩))))))) (ds.w w hw).2.2.2.2 (ds.w w hw).2.2.1]
    exact h.hw w hw
   .simp only[]
    rw[bJ,if_neg I,nH _ I I,bJ,if_neg I,bJ,if_pos rfl]
  .refine TC ⟨ds.q0,ds.i',ds.sH,ds.tw,ds.jk,ds.s_,fun b ad=>?_,fun w hw=>?_,fun x aj=>?_⟩ oc.nodup ?_ h.hm.dc
   .obtain⟨f1,f2,f3,f4,_⟩:=th b ad
    exact⟨f1,f2,f3,f4⟩
   .simp only[aE.push,List.mem_append,List.mem_singleton]at hw
    rcases hw with hw|rfl
    .obtain⟨f1,f2,f3,f4,_⟩:=ds.w w hw
     exact⟨f1,f2,f3,f4,fun ad=>(th _ ad).2.2.2.2.2.1 w hw rfl⟩
    .have mm:=told s.an (fb.2 aM)
     have iZ:=told s.lb (fb.2 aM)
     simp only[aE.push]
     exact⟨I,I,I,I,fun ad=>(th _ ad).2.2.2.2.1 rfl⟩
   .obtain⟨f1,f2,f3,f4,_,f6⟩:=ds.r x aj
    refine⟨f1,f2,f3,f4,fun ad=>(th _ ad).2.2.2.2.2.2 x aj rfl,fun w hw=>?_⟩
    simp only[aE.push,List.mem_append,List.mem_singleton]at hw
    rcases hw with hw|rfl
    .exact f6 w hw
    .have:=ap _ _ (h.hm.ak x aj)
     simp only[];omega
   .simp only[aE.push,List.map_append,List.map_cons,List.map_nil]
    have dc:(s.queue.map (·.b)).Nodup:=by
     have:=h.de
     simp only[aE.own,List.nodup_cons,List.nodup_append]at this
     exact this.2.2.2.2.2.1.1
    rw[List.nodup_append]
    refine⟨dc,aM,fun y ai z bB e=>?_⟩
    simp only[List.mem_singleton]at bB
    obtain⟨w,hw,rfl⟩:=List.mem_map.1 ai
    have:=ap _ _ (h.hw w hw)
    omega
  .simp only[aE.push,List.mem_append,List.mem_singleton]at hw
   rcases hw with hw|rfl
   .exact h.tH w hw
   .exact h.uW
  .simp only[aE.push,List.mem_append,List.mem_singleton]at hw
   rcases hw with hw|rfl
   .exact h.bd w hw
   .exact⟨r,ak,rfl⟩
  .simp only[aE.push,List.map_append,List.map_cons,List.map_nil]
   rw[List.nodup_append]
   refine⟨h.tF,aM,fun y ai z bB e=>?_⟩
   simp only[List.mem_singleton]at bB
   obtain⟨w,hw,rfl⟩:=List.mem_map.1 ai
   exact av w hw (e.trans bB)
  .simp only[aE.push,List.length_append,List.length_singleton];omega
 have aAp:bm (a1 xp s.ar (.al false [.ptr s.an 0,.int .i64 s.hq,.map s.dS,nU])) He:=aAo.a1 (by have:=told s.ar (fb.2 (.inr (.inr (.inl rfl))));omega) _
 refine asq (s:=s.push r.h (cq+17) nU fl') yW aAp fun yR qk v c_ KS n7 azQ=>?_
 intro aKU
 refine dl (aN adV.eq_1 Cm) ?_
 apply aF
 refine a6 i288.eq_1 ?_
 intro _
 have hV:∀y∈(s.push r.h (cq+17) nU fl').own,y∈s.own\/n<=y:=fun y ai=>by
  rcases fb.1 ai with e|e|e|e|e|⟨w,hw,e⟩|⟨x,aj,e⟩
  .exact .inl (fb.2 (.inl e))
  .exact .inl (fb.2 (.inr (.inl e)))
  .exact .inl (fb.2 (.inr (.inr (.inl e))))
  .exact .inl (fb.2 (.inr (.inr (.inr (.inl e)))))
  .rcases cE y e with ay|ay
   .exact .inl (fb.2 (by simp[ay]))
   .exact .inr I
  .simp only[aE.push,List.mem_append,List.mem_singleton]at hw
   rcases hw with hw|rfl
   .exact .inl (fb.2 (.inr (.inr (.inr (.inr (.inr (.inl ⟨w,hw,e⟩)))))))
   .simp only[]at e;exact .inr I
  .exact .inl (fb.2 (.inr (.inr (.inr (.inr (.inr (.inr ⟨x,aj,e⟩)))))))
 refine .all (ah _ _ _ (cq+17) nU fl' c_ I n7 (fun b ad bI=>?_) hV)
 rw[azQ b I (fun c4=>by rcases hV b c4 with ay|ay;exact bI ay;omega),bJ,if_neg (fun e=>bI (fb.2 (by simp[e]))),mK b I (fun aV=>bI (fb.2 (by simp[aV]))),tj b I,bJ,if_neg I]
end
end Go.Proofs.Run
namespace Go.Proofs.Run
open Go Go.Abs
attribute [local irreducible] b9 cI cr cg
set_option maxRecDepth 100000
set_option maxHeartbeats 4000000
section
def P9:h3 Unit:=⟨fun _ kn _=>∀b,¬kn b,fun h _=>h⟩
def ct:h3 aE where
 q6 a kn σ:=(∀b,kn b↔b∈a.own)/\∃yS:G,iE yS a/\∀b c,b∈a.own->yS b=some c->c.r_ σ b
 loc:=by
  rintro a kn σ σ' ⟨J,yS,U,aq⟩ he
  exact⟨J,yS,U,fun b c ad af=>(aq b c ad af).congr (he b ((J b).2 ad))⟩
abbrev eG(v:V)(args:List V)(g:G)(n:Nat)(a:aE)(K:cj aE):Prop:=∃id first cap,v= .fn (.func id) first cap/\aR ct bA id (first++args++cap) g n a K
theorem iE.kY{g:G}{s:aE}(h:iE g s):∀b∈s.own,∃c,g b=some c:=by
 intro b ad
 rcases fb.1 ad with rfl|rfl|rfl|rfl|ad|⟨w,hw,rfl⟩|⟨r,ak,rfl⟩
 .exact⟨_,h.hm.hm⟩
 .exact⟨_,h.hm.aA⟩
 .exact⟨_,h.aw⟩
 .exact⟨_,h.aC⟩
 .have:=h.av
  rcases this with⟨_,_,_,e⟩|⟨lb,o,cap,cells,J,U,aq,aK,bx,e⟩
  .rw[e]at ad;simp at ad
  .rw[e]at ad;simp only[List.mem_singleton]at ad;subst ad;exact⟨_,U⟩
 .exact⟨_,h.hw w hw⟩
 .exact⟨_,h.hm.ak r ak⟩
theorem sn{g:G}{n:Nat}{a:aE}{K:cj aE}{f:FuncId}{args:List V}
 (h:∀hP:G,iE hP a->bm hP n->(∀b c,g b=some c->hP b=some c)->(∀b∈a.own,g b=none)->aR P9 bA f args hP n () (fun v vk n' _=>∃a',iE vk a'/\(∀y∈a'.own,y∈a.own\/n<=y)/\(∀b,b<n->b∉a.own->vk b=hP b)/\K v g n' a')):aR ct bA f args g n a K:=by
 intro σ aa
 obtain⟨kn,⟨J,yS,U,aq⟩,aK⟩:=aa.a_
 have dy:∀b∈a.own,g b=none:=fun b ad=>(aK b ((J b).2 ad)).2
 have aAk:∀b∈a.own,b<n:=fun b ad=>(aK b ((J b).2 ad)).1
 let hP:G:=fun b=>if b∈a.own then yS b else g b
 have aD:∀b,b∈a.own->hP b=yS b:=fun b ad=>if_pos ad
 have aJ:∀b,b∉a.own->hP b=g b:=fun b ad=>if_neg ad
 have ap:bm hP n:=fun b c ad=>by
  by_cases au:b∈a.own
  .exact aAk b au
  .rw[aJ b au]at ad;exact(aa.at_ b c ad).1
 have RF:∀b c,g b=some c->hP b=some c:=fun b c ad=>by
  by_cases au:b∈a.own
  .rw[dy b au]at ad;simp at ad
  .rw[aJ b au];exact ad
 have aAZ:Sat P9 hP n () σ:=by
  refine⟨aa.fresh,aa.next,fun b c ad=>⟨ap b c ad,?_⟩,fun _=>False,fun b h=>h,fun b h=>h.elim⟩
  by_cases au:b∈a.own
  .rw[aD b au]at ad;exact aq b c au ad
  .rw[aJ b au]at ad;exact(aa.at_ b c ad).2
 refine(h hP (U.b6 aD) ap RF dy σ aAZ).mono ?_
 rintro v σ' ⟨vk,n',_,az,eK,a',xt,hV,hg,ah⟩
 refine⟨g,n',a',az,⟨eK.fresh,eK.next,fun b c ad=>?_,fun b=>b∈a'.own,⟨fun b=>Iff.rfl,vk,xt,fun b c _ af=>(eK.at_ b c af).2⟩,fun b ad=>?_⟩,ah⟩
 .have eN:=(aa.at_ b c ad).1
  have au:b∉a.own:=fun au=>by rw[dy b au]at ad;simp at ad
  have:vk b=some c:=by rw[hg b eN au];exact RF b c ad
  exact eK.at_ b c this
 .obtain⟨c,af⟩:=xt.kY b ad
  refine⟨(eK.at_ b c af).1,?_⟩
  rcases hV b ad with au|au
  .exact dy b au
  .cases aj:g b with
   |none=>rfl
   |some d=>have:=(aa.at_ b d aj).1;omega
variable{g:G}{n:Nat}{a:aE}{K:cj aE}
def aE.tick(a:aE):aE:={a with m:=a.m.tick}
def aE.put(a:aE)(h i v:Int):aE:={a with m:=a.m.put h i v}
theorem DV(m:ck)(h i v:Int):(m.put h i v).live.map (·.b)=m.live.map (·.b):=by
 simp only[ck.put,List.map_map]
 apply List.map_congr_left
 intro x aj;simp only[Function.comp];split<;>rfl
theorem Ht(a:aE)(h i v:Int):(a.put h i v).own=a.own:=by
 simp only[aE.own,aE.put,DV]
theorem aLE(a:aE):a.tick.own=a.own:=rfl
theorem F'{m:ck}{h i v x:Int}(bd:m.has x):(m.put h i v).has x:=by
 obtain⟨r,ak,rfl⟩:=bd
 refine⟨if r.h=h then{r with ws:=r.ws.set i.toNat v}else r,List.mem_map_of_mem (f:=fun r:gY=>if r.h=h then{r with ws:=r.ws.set i.toNat v}else r) ak,?_⟩
 split<;>rfl
theorem iE.mem{hP vk:G}(h:iE hP a){hW:ck}(hm:gw vk a.an a.lb hW)(ad:hW.live.map (·.b)=a.m.live.map (·.b))(bd:∀x,a.m.has x->hW.has x){r:gY}(ak:r∈a.m.live){n:Nat}(ap:bm hP n)(aw:∀b,b<n->b≠a.an->b≠r.b->vk b=hP b):iE vk {a with m:=hW}:=by
 have ds:=h.ds
 obtain⟨gJ,fV,fW,sN,z3,Eu⟩:=ds.r r ak
 refine⟨hm,?_,?_,h.av.b6 fun b ad=>aw b (h.av.lt ap b ad) (ds.f b ad).1 fun e=>z3 (e▸ad),fun w hw=>?_,?_,h.uW,h.tH,fun w hw=>bd _ (h.bd w hw),h.tF,h.oj⟩
 .exact(aw _ (ap _ _ h.aw) ds.i'.symm fW.symm).trans h.aw
 .exact(aw _ (ap _ _ h.aC) ds.sH.symm sN.symm).trans h.aC
 .exact(aw _ (ap _ _ (h.hw w hw)) (ds.w w hw).1 (Eu w hw).symm).trans (h.hw w hw)
 .have:=h.de
  simp only[aE.own]at this |-
  rw[ad];exact this
def aE.at_(a:aE)(h i w:Int):Prop:=0<=i/\∃r∈a.m.live,r.h=h/\r.ws[i.toNat]? =some w
theorem rT{h i w:Int}(hw:a.at_ h i w)(ah:∀n',n<=n'->K (.bN [.int .u64 w,.bool true]) g n' a.tick):aR ct bA 155 [.ptr a.an 0,.int .i64 h,.int .i64 i] g n a K:=by
 obtain⟨aC,r,ak,rfl,hw⟩:=hw
 refine sn fun hP dJ ap _ dy=>?_
 refine aC2 dJ.hm ak aC hw fun g' n' az dK aw=>⟨a.tick,dJ.mem dK rfl (fun x h=>h) ak ap fun b _ J U=>aw b J U,fun y ai=>.inl ai,fun b ad au=>aw b (fun e=>au (fb.2 (.inl e))) (fun e=>au (fb.2 (.inr (.inr (.inr (.inr (.inr (.inr ⟨r,ak,e.symm⟩)))))))),ah n' az⟩
theorem Bo{r:gY}(ak:r∈a.m.live):r.b∈a.own:=fb.2 (.inr (.inr (.inr (.inr (.inr (.inr ⟨r,ak,rfl⟩))))))
theorem ye{h i w v:Int}(hw:a.at_ h i w)(hv:dZ v)(ah:∀n',n<=n'->K (.bool true) g n' (a.put h i v)):aR ct bA 281 [.ptr a.an 0,.int .i64 h,.int .i64 i,.int .u64 v] g n a K:=by
 obtain⟨aC,r,ak,rfl,hw⟩:=hw
 refine sn fun hP dJ ap _ dy=>?_
 refine aHX dJ.hm ap ak aC hw hv fun g' n' az dK aw=>⟨a.put r.h i v,dJ.mem dK (DV _ _ _ _) (fun x h=>F' h) ak ap aw,fun y ai=>.inl (by rw[Ht]at ai;exact ai),fun b ad au=>aw b ad (fun e=>au (fb.2 (.inl e))) (fun e=>au (e▸Bo ak)),ah n' az⟩
theorem yQ{h i w m v:Int}(hw:a.at_ h i w)(ah:∀n',n<=n'->K (.bN [.int .u64 w,.bool true]) g n' (a.put h i (fy w m v))):aR ct bA 153 [.ptr a.an 0,.int .i64 h,.int .i64 i,.int .i64 0,.int .u64 m,.int .u64 v] g n a K:=by
 obtain⟨aC,r,ak,rfl,hw⟩:=hw
 refine sn fun hP dJ ap _ dy=>?_
 refine QP dJ.hm ap ak aC hw fun g' n' az dK aw=>⟨a.put r.h i _,dJ.mem dK (DV _ _ _ _) (fun x h=>F' h) ak ap aw,fun y ai=>.inl (by rw[Ht]at ai;exact ai),fun b ad au=>aw b ad (fun e=>au (fb.2 (.inl e))) (fun e=>au (e▸Bo ak)),ah n' az⟩
theorem Tt{h i w:Int}(hw:a.at_ h i w)(ah:∀n',n<=n'->K (.bN [.int .u64 w,.bool true]) g n' (a.put h i (fy w 18446744073709551615 1))):aR ct bA 264 [.ptr a.an 0,.int .i64 h,.int .i64 i] g n a K:=by
 obtain⟨aC,r,ak,rfl,hw⟩:=hw
 refine sn fun hP dJ ap _ dy=>?_
 refine aDz dJ.hm ap ak aC hw fun g' n' az dK aw=>⟨a.put r.h i _,dJ.mem dK (DV _ _ _ _) (fun x h=>F' h) ak ap aw,fun y ai=>.inl (by rw[Ht]at ai;exact ai),fun b ad au=>aw b ad (fun e=>au (fb.2 (.inl e))) (fun e=>au (e▸Bo ak)),ah n' az⟩
theorem awW{h i w m o v:Int}(hw:a.at_ h i w)(ah:∀n',n<=n'->K (.bN [.int .u64 w,.bool true]) g n' (a.put h i (o1 w m o v))):aR ct bA 325 [.ptr a.an 0,.int .i64 h,.int .i64 i,.int .u64 m,.int .u64 o,.int .u64 v] g n a K:=by
 obtain⟨aC,r,ak,rfl,hw⟩:=hw
 refine sn fun hP dJ ap _ dy=>?_
 refine awb dJ.hm ap ak aC hw fun g' n' az dK aw=>⟨a.put r.h i _,dJ.mem dK (DV _ _ _ _) (fun x h=>F' h) ak ap aw,fun y ai=>.inl (by rw[Ht]at ai;exact ai),fun b ad au=>aw b ad (fun e=>au (fb.2 (.inl e))) (fun e=>au (e▸Bo ak)),ah n' az⟩
def aE.make(a:aE)(k b:Nat):aE:={a with m:=a.m.mk' k b}
theorem Hg{k:Nat}(kr:1<=k)(eJ:k<=65536)(na:0<=a.m.made/\a.m.made<1000000000)
 (J:a.m.room<k->∀n',n<=n'->K (.bN [.int .i64 0,.int .i64 5]) g n' a)
 (U:(k:Int)<=a.m.room->∀n' b,n<=n'->K (.bN [.int .i64 (a.m.made+1),.int .i64 0]) g n' (a.make k b)):aR ct bA 145 [.ptr a.an 0,.int .i64 k] g n a K:=by
 refine sn fun hP dJ ap _ dy=>?_
 have ds:=dJ.ds
 refine aDu dJ.hm ap kr eJ na (fun ak n' az=>⟨a,dJ,fun y ai=>.inl ai,fun b _ _=>rfl,J ak n' az⟩) fun ak g' n' b ad eN dK aw=>⟨a.make k b,?_,?_,fun x aj au=>aw x aj (fun e=>au (fb.2 (.inl e))) (fun e=>au (fb.2 (.inr (.inl e)))),U ak n' b I⟩
 .refine⟨dK,?_,?_,dJ.av.b6 fun x aj=>aw x (dJ.av.lt ap x aj) (ds.f x aj).1 (ds.f x aj).2.1,fun w hw=>?_,?_,dJ.uW,dJ.tH,fun w hw=>?_,dJ.tF,dJ.oj⟩
  .exact(aw _ (ap _ _ dJ.aw) ds.i'.symm ds.tw.symm).trans dJ.aw
  .exact(aw _ (ap _ _ dJ.aC) ds.sH.symm ds.jk.symm).trans dJ.aC
  .exact(aw _ (ap _ _ (dJ.hw w hw)) (ds.w w hw).1 (ds.w w hw).2.1).trans (dJ.hw w hw)
  .have told:=dJ.told ap
   have dc:(a.queue.map (·.b)).Nodup:=by
    have:=dJ.de
    simp only[aE.own,List.nodup_cons,List.nodup_append]at this
    exact this.2.2.2.2.2.1.1
   refine TC ⟨ds.q0,ds.i',ds.sH,ds.tw,ds.jk,ds.s_,ds.f,ds.w,fun r ak=>?_⟩ dJ.av.nodup dc dK.dc
   simp only[aE.make,ck.mk',List.mem_append,List.mem_singleton]at ak
   rcases ak with ak|rfl
   .exact ds.r r ak
   .have mm:=told a.an (fb.2 (.inl rfl))
    have iZ:=told a.lb (fb.2 (.inr (.inl rfl)))
    have tw:=told a.ar (fb.2 (.inr (.inr (.inl rfl))))
    have jk:=told a.dS (fb.2 (.inr (.inr (.inr (.inl rfl)))))
    simp only[aE.make]
    refine⟨I,I,I,I,fun aV=>?_,fun w hw=>?_⟩
    .have:=told _ (Lq aV);omega
    .have:=ap _ _ (dJ.hw w hw);omega
  .obtain⟨r,ak,e⟩:=dJ.bd w hw
   exact⟨r,by simp only[aE.make,ck.mk',List.mem_append];exact .inl ak,e⟩
 .intro y ai
  rcases fb.1 ai with e|e|e|e|e|⟨w,hw,e⟩|⟨r,ak,e⟩
  .exact .inl (fb.2 (.inl e))
  .exact .inl (fb.2 (.inr (.inl e)))
  .exact .inl (fb.2 (.inr (.inr (.inl e))))
  .exact .inl (fb.2 (.inr (.inr (.inr (.inl e)))))
  .exact .inl (fb.2 (.inr (.inr (.inr (.inr (.inl e))))))
  .exact .inl (fb.2 (.inr (.inr (.inr (.inr (.inr (.inl ⟨w,hw,e⟩)))))))
  .simp only[aE.make,ck.mk',List.mem_append,List.mem_singleton]at ak
   rcases ak with ak|rfl
   .exact .inl (e▸Bo ak)
   .simp only[]at e;exact .inr I
def aE.free(a:aE)(h:Int):aE:={a with m:=a.m.jm h}
theorem axW{h:Int}(bd:a.m.has h)(av:∀w∈a.queue,w.h≠h)(ah:∀n',n<=n'->K (.bool true) g n' (a.free h)):aR ct bA 59 [.ptr a.an 0,.int .i64 h] g n a K:=by
 obtain⟨r,ak,rfl⟩:=bd
 refine sn fun hP dJ ap _ dy=>?_
 have ds:=dJ.ds
 refine QX dJ.hm ak fun g' n' az dK aw=>⟨a.free r.h,?_,fun y ai=>?_,fun b ad au=>aw b (fun e=>au (fb.2 (.inl e))) (fun e=>au (fb.2 (.inr (.inl e)))),ah n' az⟩
 .rw[<-aeM dJ.hm ak]at dK
  refine⟨dK,(aw _ ds.i'.symm ds.tw.symm).trans dJ.aw,(aw _ ds.sH.symm ds.jk.symm).trans dJ.aC,dJ.av.b6 fun b ad=>aw b (ds.f b ad).1 (ds.f b ad).2.1,fun w hw=>(aw _ (ds.w w hw).1 (ds.w w hw).2.1).trans (dJ.hw w hw),?_,dJ.uW,dJ.tH,fun w hw=>Kf (av w hw) (dJ.bd w hw),dJ.tF,dJ.oj⟩
  have qc:List.Sublist (a.free r.h).own a.own:=by
   simp only[aE.own,aE.free]
   exact .cons_cons _ (.cons_cons _ (.cons_cons _ (.cons_cons _ (List.Sublist.append (List.Sublist.refl _) (List.Sublist.append (List.Sublist.refl _) (List.Sublist.map _ M6))))))
  exact dJ.de.sublist qc
 .refine .inl ?_
  rcases fb.1 ai with e|e|e|e|e|⟨w,hw,e⟩|⟨x,aj,e⟩
  .exact fb.2 (.inl e)
  .exact fb.2 (.inr (.inl e))
  .exact fb.2 (.inr (.inr (.inl e)))
  .exact fb.2 (.inr (.inr (.inr (.inl e))))
  .exact fb.2 (.inr (.inr (.inr (.inr (.inl e)))))
  .exact fb.2 (.inr (.inr (.inr (.inr (.inr (.inl ⟨w,hw,e⟩))))))
  .exact e▸Bo (M6.subset aj)
theorem axd{x:Int}(qd:0<=x)(nh:x<a.hq)(aj:x∉a.inside)(ah:∀n',n<=n'->K (.bool true) g n' (a.enter x)):aR ct bA 11 [.ptr a.ar 0,.int .i64 x] g n a K:=by
 refine sn fun hP dJ ap _ dy=>?_
 exact axh dJ qd nh aj fun g' n' az xt aw=>⟨a.enter x,xt,fun y ai=>.inl ai,fun b _ au=>aw b au,ah n' az⟩
theorem Ue(s:aE)(bC:V):∀y∈(s.cX bC).own,y∈s.own:=by
 intro y ai
 have qc:List.Sublist (s.cX bC).own s.own:=by
  simp only[aE.own,aE.cX]
  exact .cons_cons _ (.cons_cons _ (.cons_cons _ (.cons_cons _ (List.Sublist.append (List.Sublist.refl _) (List.Sublist.append (List.Sublist.map _ List.filter_sublist) (List.Sublist.map _ (Nv _ _)))))))
 exact qc.subset ai
theorem aDj{x:Int}(aj:x∈a.inside)(ah:∀n' v bC,n<=n'->K v g n' ((a.out x).cX bC)):aR ct bA 16 [.ptr a.ar 0,.int .i64 x] g n a K:=by
 refine sn fun hP dJ ap _ dy=>?_
 refine DT dJ ap aj fun g' n' v bC az xt aw=>⟨_,xt,fun y ai=>.inl ?_,aw,ah n' v bC az⟩
 have:=Ue _ _ y ai
 rw[<-JV,Ek]at this
 exact this
theorem FW{h:Int}(bd:a.m.has h)(av:∀w∈a.queue,w.h≠h)(sw:a.queue.length<40000)(ah:∀n' v b bC fl c_,n<=n'->K v g n' ((a.push h b bC fl).cX c_)):aR ct bA 288 [.ptr a.ar 0,.int .i64 h] g n a K:=by
 obtain⟨r,ak,rfl⟩:=bd
 refine sn fun hP dJ ap _ dy=>?_
 exact awZ dJ ap ak rfl av sw fun g' n' v b bC fl c_ az xt aw hV=>⟨_,xt,fun y ai=>hV y (Ue _ _ y ai),aw,ah n' v b bC fl c_ az⟩
theorem aJd(ah:∀n',n<=n'->K (.int .i64 a.queue.length) g n' a):aR ct bA 19 [.ptr a.ar 0] g n a K:=by
 refine sn fun hP dJ ap _ dy=>?_
 exact aIZ dJ fun n' az=>⟨a,dJ,fun y ai=>.inl ai,fun b _ _=>rfl,ah n' az⟩
theorem avx(ah:∀n',n<=n'->K (.int .i64 a.m.ry) g n' a):aR ct bA 20 [.ptr a.an 0] g n a K:=by
 refine sn fun hP dJ ap _ dy=>?_
 exact avu dJ fun n' az=>⟨a,dJ,fun y ai=>.inl ai,fun b _ _=>rfl,ah n' az⟩
end
end Go.Proofs.Run
namespace Go.Proofs.Run
open Go Go.Abs
set_option maxRecDepth 100000
structure bF where
 x:V
 hX:V
 g5:V
 hY:V
 h_:V
 i_:V
 val:V
 next:V
 effect:V
 done:V
 hl:V
 gJ:V
 fV:V
 fW:V
 room:V
 bk:V
 bo:V
 a7:V
 made:V
 key:V
 fu:V
def bF.l(f:bF):List V:=[f.x,f.hX,f.g5,f.hY,f.h_,f.i_,f.val,f.next,f.effect,f.done,f.hl,f.gJ,f.fV,f.fW,f.room,f.bk,f.bo,f.a7,f.made,f.key,f.fu]
theorem bF.len(f:bF):f.l.length=21:=rfl
theorem bF.CR(f:bF):f.l[0]? =some f.x:=rfl
theorem bF.EA(f:bF)(v:V):f.l.set 0 v=({f with x:=v}:bF).l:=rfl
theorem bF.CS(f:bF):f.l[1]? =some f.hX:=rfl
theorem bF.EB(f:bF)(v:V):f.l.set 1 v=({f with hX:=v}:bF).l:=rfl
theorem bF.C3(f:bF):f.l[2]? =some f.g5:=rfl
theorem bF.EM(f:bF)(v:V):f.l.set 2 v=({f with g5:=v}:bF).l:=rfl
theorem bF.C5(f:bF):f.l[3]? =some f.hY:=rfl
theorem bF.EO(f:bF)(v:V):f.l.set 3 v=({f with hY:=v}:bF).l:=rfl
theorem bF.C6(f:bF):f.l[4]? =some f.h_:=rfl
theorem bF.EP(f:bF)(v:V):f.l.set 4 v=({f with h_:=v}:bF).l:=rfl
theorem bF.C7(f:bF):f.l[5]? =some f.i_:=rfl
theorem bF.EQ(f:bF)(v:V):f.l.set 5 v=({f with i_:=v}:bF).l:=rfl
theorem bF.C8(f:bF):f.l[6]? =some f.val:=rfl
theorem bF.ER(f:bF)(v:V):f.l.set 6 v=({f with val:=v}:bF).l:=rfl
theorem bF.C9(f:bF):f.l[7]? =some f.next:=rfl
theorem bF.ES(f:bF)(v:V):f.l.set 7 v=({f with next:=v}:bF).l:=rfl
theorem bF.C'(f:bF):f.l[8]? =some f.effect:=rfl
theorem bF.ET(f:bF)(v:V):f.l.set 8 v=({f with effect:=v}:bF).l:=rfl
theorem bF.C_(f:bF):f.l[9]? =some f.done:=rfl
theorem bF.EU(f:bF)(v:V):f.l.set 9 v=({f with done:=v}:bF).l:=rfl
theorem bF.CT(f:bF):f.l[10]? =some f.hl:=rfl
theorem bF.EC(f:bF)(v:V):f.l.set 10 v=({f with hl:=v}:bF).l:=rfl
theorem bF.CU(f:bF):f.l[11]? =some f.gJ:=rfl
theorem bF.ED(f:bF)(v:V):f.l.set 11 v=({f with gJ:=v}:bF).l:=rfl
theorem bF.CV(f:bF):f.l[12]? =some f.fV:=rfl
theorem bF.EE(f:bF)(v:V):f.l.set 12 v=({f with fV:=v}:bF).l:=rfl
theorem bF.CW(f:bF):f.l[13]? =some f.fW:=rfl
theorem bF.EF(f:bF)(v:V):f.l.set 13 v=({f with fW:=v}:bF).l:=rfl
theorem bF.CX(f:bF):f.l[14]? =some f.room:=rfl
theorem bF.EG(f:bF)(v:V):f.l.set 14 v=({f with room:=v}:bF).l:=rfl
theorem bF.CY(f:bF):f.l[15]? =some f.bk:=rfl
theorem bF.EH(f:bF)(v:V):f.l.set 15 v=({f with bk:=v}:bF).l:=rfl
theorem bF.CZ(f:bF):f.l[16]? =some f.bo:=rfl
theorem bF.EI(f:bF)(v:V):f.l.set 16 v=({f with bo:=v}:bF).l:=rfl
theorem bF.C0(f:bF):f.l[17]? =some f.a7:=rfl
theorem bF.EJ(f:bF)(v:V):f.l.set 17 v=({f with a7:=v}:bF).l:=rfl
theorem bF.C1(f:bF):f.l[18]? =some f.made:=rfl
theorem bF.EK(f:bF)(v:V):f.l.set 18 v=({f with made:=v}:bF).l:=rfl
theorem bF.C2(f:bF):f.l[19]? =some f.key:=rfl
theorem bF.EL(f:bF)(v:V):f.l.set 19 v=({f with key:=v}:bF).l:=rfl
theorem bF.C4(f:bF):f.l[20]? =some f.fu:=rfl
theorem bF.EN(f:bF)(v:V):f.l.set 20 v=({f with fu:=v}:bF).l:=rfl
structure bu where
 x:V
 hX:V
 g5:V
 hY:V
 h_:V
 i_:V
 val:V
 hl:V
 gJ:V
 fV:V
 fW:V
 next:V
 effect:V
 done:V
 stays:V
 bk:V
 bo:V
 eo:V
 ep:V
 a7:V
 made:V
 Jb:V
 any:V
def bu.l(f:bu):List V:=[f.x,f.hX,f.g5,f.hY,f.h_,f.i_,f.val,f.hl,f.gJ,f.fV,f.fW,f.next,f.effect,f.done,f.stays,f.bk,f.bo,f.eo,f.ep,f.a7,f.made,f.Jb,f.any]
theorem bu.len(f:bu):f.l.length=23:=rfl
theorem bu.CR(f:bu):f.l[0]? =some f.x:=rfl
theorem bu.EA(f:bu)(v:V):f.l.set 0 v=({f with x:=v}:bu).l:=rfl
theorem bu.CS(f:bu):f.l[1]? =some f.hX:=rfl
theorem bu.EB(f:bu)(v:V):f.l.set 1 v=({f with hX:=v}:bu).l:=rfl
theorem bu.C3(f:bu):f.l[2]? =some f.g5:=rfl
theorem bu.EM(f:bu)(v:V):f.l.set 2 v=({f with g5:=v}:bu).l:=rfl
theorem bu.C5(f:bu):f.l[3]? =some f.hY:=rfl
theorem bu.EO(f:bu)(v:V):f.l.set 3 v=({f with hY:=v}:bu).l:=rfl
theorem bu.C6(f:bu):f.l[4]? =some f.h_:=rfl
theorem bu.EP(f:bu)(v:V):f.l.set 4 v=({f with h_:=v}:bu).l:=rfl
theorem bu.C7(f:bu):f.l[5]? =some f.i_:=rfl
theorem bu.EQ(f:bu)(v:V):f.l.set 5 v=({f with i_:=v}:bu).l:=rfl
theorem bu.C8(f:bu):f.l[6]? =some f.val:=rfl
theorem bu.ER(f:bu)(v:V):f.l.set 6 v=({f with val:=v}:bu).l:=rfl
theorem bu.C9(f:bu):f.l[7]? =some f.hl:=rfl
theorem bu.ES(f:bu)(v:V):f.l.set 7 v=({f with hl:=v}:bu).l:=rfl
theorem bu.C'(f:bu):f.l[8]? =some f.gJ:=rfl
theorem bu.ET(f:bu)(v:V):f.l.set 8 v=({f with gJ:=v}:bu).l:=rfl
theorem bu.C_(f:bu):f.l[9]? =some f.fV:=rfl
theorem bu.EU(f:bu)(v:V):f.l.set 9 v=({f with fV:=v}:bu).l:=rfl
theorem bu.CT(f:bu):f.l[10]? =some f.fW:=rfl
theorem bu.EC(f:bu)(v:V):f.l.set 10 v=({f with fW:=v}:bu).l:=rfl
theorem bu.CU(f:bu):f.l[11]? =some f.next:=rfl
theorem bu.ED(f:bu)(v:V):f.l.set 11 v=({f with next:=v}:bu).l:=rfl
theorem bu.CV(f:bu):f.l[12]? =some f.effect:=rfl
theorem bu.EE(f:bu)(v:V):f.l.set 12 v=({f with effect:=v}:bu).l:=rfl
theorem bu.CW(f:bu):f.l[13]? =some f.done:=rfl
theorem bu.EF(f:bu)(v:V):f.l.set 13 v=({f with done:=v}:bu).l:=rfl
theorem bu.CX(f:bu):f.l[14]? =some f.stays:=rfl
theorem bu.EG(f:bu)(v:V):f.l.set 14 v=({f with stays:=v}:bu).l:=rfl
theorem bu.CY(f:bu):f.l[15]? =some f.bk:=rfl
theorem bu.EH(f:bu)(v:V):f.l.set 15 v=({f with bk:=v}:bu).l:=rfl
theorem bu.CZ(f:bu):f.l[16]? =some f.bo:=rfl
theorem bu.EI(f:bu)(v:V):f.l.set 16 v=({f with bo:=v}:bu).l:=rfl
theorem bu.C0(f:bu):f.l[17]? =some f.eo:=rfl
theorem bu.EJ(f:bu)(v:V):f.l.set 17 v=({f with eo:=v}:bu).l:=rfl
theorem bu.C1(f:bu):f.l[18]? =some f.ep:=rfl
theorem bu.EK(f:bu)(v:V):f.l.set 18 v=({f with ep:=v}:bu).l:=rfl
theorem bu.C2(f:bu):f.l[19]? =some f.a7:=rfl
theorem bu.EL(f:bu)(v:V):f.l.set 19 v=({f with a7:=v}:bu).l:=rfl
theorem bu.C4(f:bu):f.l[20]? =some f.made:=rfl
theorem bu.EN(f:bu)(v:V):f.l.set 20 v=({f with made:=v}:bu).l:=rfl
theorem bu.JT(f:bu):f.l[21]? =some f.Jb:=rfl
theorem bu.Nf(f:bu)(v:V):f.l.set 21 v=({f with Jb:=v}:bu).l:=rfl
theorem bu.JU(f:bu):f.l[22]? =some f.any:=rfl
theorem bu.Ng(f:bu)(v:V):f.l.set 22 v=({f with any:=v}:bu).l:=rfl
structure a2 where
 x:V
 d0:V
 d1:V
 d2:V
 d3:V
 d4:V
 fg:V
 ic:V
 Ju:V
 cS:V
 lu:V
 lv:V
 lx:V
 ly:V
 lz:V
 Jk:V
 Jn:V
 Jv:V
 kD:V
 ln:V
 lo:V
 lp:V
 lq:V
 lr:V
 ls:V
 mA:V
 mB:V
 jW:V
 kb:V
 next:V
 now:V
 visit:V
 keys:V
 room:V
 i:V
 effect:V
 mem:V
 done:V
 over:V
def a2.l(f:a2):List V:=[f.x,f.d0,f.d1,f.d2,f.d3,f.d4,f.fg,f.ic,f.Ju,f.cS,f.lu,f.lv,f.lx,f.ly,f.lz,f.Jk,f.Jn,f.Jv,f.kD,f.ln,f.lo,f.lp,f.lq,f.lr,f.ls,f.mA,f.mB,f.jW,f.kb,f.next,f.now,f.visit,f.keys,f.room,f.i,f.effect,f.mem,f.done,f.over]
theorem a2.len(f:a2):f.l.length=39:=rfl
theorem a2.CR(f:a2):f.l[0]? =some f.x:=rfl
theorem a2.EA(f:a2)(v:V):f.l.set 0 v=({f with x:=v}:a2).l:=rfl
theorem a2.CS(f:a2):f.l[1]? =some f.d0:=rfl
theorem a2.EB(f:a2)(v:V):f.l.set 1 v=({f with d0:=v}:a2).l:=rfl
theorem a2.C3(f:a2):f.l[2]? =some f.d1:=rfl
theorem a2.EM(f:a2)(v:V):f.l.set 2 v=({f with d1:=v}:a2).l:=rfl
theorem a2.C5(f:a2):f.l[3]? =some f.d2:=rfl
theorem a2.EO(f:a2)(v:V):f.l.set 3 v=({f with d2:=v}:a2).l:=rfl
theorem a2.C6(f:a2):f.l[4]? =some f.d3:=rfl
theorem a2.EP(f:a2)(v:V):f.l.set 4 v=({f with d3:=v}:a2).l:=rfl
theorem a2.C7(f:a2):f.l[5]? =some f.d4:=rfl
theorem a2.EQ(f:a2)(v:V):f.l.set 5 v=({f with d4:=v}:a2).l:=rfl
theorem a2.C8(f:a2):f.l[6]? =some f.fg:=rfl
theorem a2.ER(f:a2)(v:V):f.l.set 6 v=({f with fg:=v}:a2).l:=rfl
theorem a2.C9(f:a2):f.l[7]? =some f.ic:=rfl
theorem a2.ES(f:a2)(v:V):f.l.set 7 v=({f with ic:=v}:a2).l:=rfl
theorem a2.C'(f:a2):f.l[8]? =some f.Ju:=rfl
theorem a2.ET(f:a2)(v:V):f.l.set 8 v=({f with Ju:=v}:a2).l:=rfl
theorem a2.C_(f:a2):f.l[9]? =some f.cS:=rfl
theorem a2.EU(f:a2)(v:V):f.l.set 9 v=({f with cS:=v}:a2).l:=rfl
theorem a2.CT(f:a2):f.l[10]? =some f.lu:=rfl
theorem a2.EC(f:a2)(v:V):f.l.set 10 v=({f with lu:=v}:a2).l:=rfl
theorem a2.CU(f:a2):f.l[11]? =some f.lv:=rfl
theorem a2.ED(f:a2)(v:V):f.l.set 11 v=({f with lv:=v}:a2).l:=rfl
theorem a2.CV(f:a2):f.l[12]? =some f.lx:=rfl
theorem a2.EE(f:a2)(v:V):f.l.set 12 v=({f with lx:=v}:a2).l:=rfl
theorem a2.CW(f:a2):f.l[13]? =some f.ly:=rfl
theorem a2.EF(f:a2)(v:V):f.l.set 13 v=({f with ly:=v}:a2).l:=rfl
theorem a2.CX(f:a2):f.l[14]? =some f.lz:=rfl
theorem a2.EG(f:a2)(v:V):f.l.set 14 v=({f with lz:=v}:a2).l:=rfl
theorem a2.CY(f:a2):f.l[15]? =some f.Jk:=rfl
theorem a2.EH(f:a2)(v:V):f.l.set 15 v=({f with Jk:=v}:a2).l:=rfl
theorem a2.CZ(f:a2):f.l[16]? =some f.Jn:=rfl
theorem a2.EI(f:a2)(v:V):f.l.set 16 v=({f with Jn:=v}:a2).l:=rfl
theorem a2.C0(f:a2):f.l[17]? =some f.Jv:=rfl
theorem a2.EJ(f:a2)(v:V):f.l.set 17 v=({f with Jv:=v}:a2).l:=rfl
theorem a2.C1(f:a2):f.l[18]? =some f.kD:=rfl
theorem a2.EK(f:a2)(v:V):f.l.set 18 v=({f with kD:=v}:a2).l:=rfl
theorem a2.C2(f:a2):f.l[19]? =some f.ln:=rfl
theorem a2.EL(f:a2)(v:V):f.l.set 19 v=({f with ln:=v}:a2).l:=rfl
theorem a2.C4(f:a2):f.l[20]? =some f.lo:=rfl
theorem a2.EN(f:a2)(v:V):f.l.set 20 v=({f with lo:=v}:a2).l:=rfl
theorem a2.JT(f:a2):f.l[21]? =some f.lp:=rfl
theorem a2.Nf(f:a2)(v:V):f.l.set 21 v=({f with lp:=v}:a2).l:=rfl
theorem a2.JU(f:a2):f.l[22]? =some f.lq:=rfl
theorem a2.Ng(f:a2)(v:V):f.l.set 22 v=({f with lq:=v}:a2).l:=rfl
theorem a2.ax4(f:a2):f.l[23]? =some f.lr:=rfl
theorem a2.aGU(f:a2)(v:V):f.l.set 23 v=({f with lr:=v}:a2).l:=rfl
theorem a2.ax5(f:a2):f.l[24]? =some f.ls:=rfl
theorem a2.aGV(f:a2)(v:V):f.l.set 24 v=({f with ls:=v}:a2).l:=rfl
theorem a2.ax6(f:a2):f.l[25]? =some f.mA:=rfl
theorem a2.aGW(f:a2)(v:V):f.l.set 25 v=({f with mA:=v}:a2).l:=rfl
theorem a2.ax7(f:a2):f.l[26]? =some f.mB:=rfl
theorem a2.aGX(f:a2)(v:V):f.l.set 26 v=({f with mB:=v}:a2).l:=rfl
theorem a2.ax8(f:a2):f.l[27]? =some f.jW:=rfl
theorem a2.aGY(f:a2)(v:V):f.l.set 27 v=({f with jW:=v}:a2).l:=rfl
theorem a2.ax9(f:a2):f.l[28]? =some f.kb:=rfl
theorem a2.aGZ(f:a2)(v:V):f.l.set 28 v=({f with kb:=v}:a2).l:=rfl
theorem a2.ax'(f:a2):f.l[29]? =some f.next:=rfl
theorem a2.aG0(f:a2)(v:V):f.l.set 29 v=({f with next:=v}:a2).l:=rfl
theorem a2.ax_(f:a2):f.l[30]? =some f.now:=rfl
theorem a2.aG1(f:a2)(v:V):f.l.set 30 v=({f with now:=v}:a2).l:=rfl
theorem a2.aya(f:a2):f.l[31]? =some f.visit:=rfl
theorem a2.aG2(f:a2)(v:V):f.l.set 31 v=({f with visit:=v}:a2).l:=rfl
theorem a2.ayb(f:a2):f.l[32]? =some f.keys:=rfl
theorem a2.aG3(f:a2)(v:V):f.l.set 32 v=({f with keys:=v}:a2).l:=rfl
theorem a2.ayc(f:a2):f.l[33]? =some f.room:=rfl
theorem a2.aG4(f:a2)(v:V):f.l.set 33 v=({f with room:=v}:a2).l:=rfl
theorem a2.ayd(f:a2):f.l[34]? =some f.i:=rfl
theorem a2.aG5(f:a2)(v:V):f.l.set 34 v=({f with i:=v}:a2).l:=rfl
theorem a2.aye(f:a2):f.l[35]? =some f.effect:=rfl
theorem a2.aG6(f:a2)(v:V):f.l.set 35 v=({f with effect:=v}:a2).l:=rfl
theorem a2.ayf(f:a2):f.l[36]? =some f.mem:=rfl
theorem a2.aG7(f:a2)(v:V):f.l.set 36 v=({f with mem:=v}:a2).l:=rfl
theorem a2.ayg(f:a2):f.l[37]? =some f.done:=rfl
theorem a2.aG8(f:a2)(v:V):f.l.set 37 v=({f with done:=v}:a2).l:=rfl
theorem a2.ayh(f:a2):f.l[38]? =some f.over:=rfl
theorem a2.aG9(f:a2)(v:V):f.l.set 38 v=({f with over:=v}:a2).l:=rfl
end Go.Proofs.Run
namespace Go.Proofs.Run
open Go Go.Abs
attribute [local irreducible] b9 cI cr cg aR
set_option maxRecDepth 100000
set_option maxHeartbeats 4000000
section
def oX:List Nat->Prop
 |[]=>True
 |b::l=>(∀x∈l,(b=x)=False/\(x=b)=False)/\oX l
theorem Qm:∀{l:List Nat},l.Nodup->oX l
 |[],_=>trivial
 |b::l,h=>by
  rw[List.nodup_cons]at h
  refine⟨fun x aj=>?_,Qm h.2⟩
  have:b≠x:=fun e=>h.1 (e▸aj)
  exact⟨eq_false this,eq_false this.symm⟩
structure Own(g:G)(L:List (Nat×bt)):Prop where
 at_:∀p∈L,g p.1=some p.2
 de:(L.map (·.1)).Nodup
theorem Own.aw2{g:G}{L:List (Nat×bt)}(h:Own g L):oX (L.map (·.1)):=Qm h.de
theorem Own.Hd{g:G}{L:List (Nat×bt)}(h:Own g L){n:Nat}(ap:bm g n):∀p∈L,p.1<n/\(∀k,(n+k=p.1)=False)/\(n=p.1)=False/\(∀k,(p.1=n+k)=False)/\(p.1=n)=False:=fun p aB=>by
 have:=ap _ _ (h.at_ p aB)
 exact⟨this,fun k=>dF this k,gS this,fun k=>tG this k,x1 this⟩
theorem Own.b6{g g':G}{L:List (Nat×bt)}(h:Own g L)(aw:∀b∈L.map (·.1),g' b=g b):Own g' L:=⟨fun p aB=>by rw[aw p.1 (List.mem_map_of_mem aB)];exact h.at_ p aB,h.de⟩
theorem zN{b:Nat}{l:List Nat}(h:b∉l):∀x∈l,(x=b)=False:=fun x aj=>eq_false fun e=>h (e▸aj)
theorem gW{g g':G}{n t:Nat}(aw:∀b,b<n->b≠t->g' b=g b)(l:List Nat)(h:∀x∈l,x<n/\(x=t)=False):∀x∈l,g' x=g x:=fun x aj=>aw x (h x aj).1 fun e=>by have:=(h x aj).2;rw[e]at this;simp at this
variable{g:G}{n:Nat}{a:aE}{K:cj aE}
def lc(an:Nat)(h i bK:Int)(nx:V):bt:=.al false [.ptr an 0,.int .i64 h,.int .i64 i,.int .u64 bK,nx]
theorem BY{h i:Int}(ap:bm g n)(ah:∀g' n',n<n'->g' n=some (lc a.an h i 0 (.fn (.func 211) [.ptr n 0] []))->(∀b,b≠n->g' b=g b)->K (.ptr n 0) g' n' a):aR ct bA 149 [.ptr a.an 0,.int .i64 h,.int .i64 i] g n a K:=by
 refine bE i149 fun N aF=>?_
 refine dl auk ?_
 apply aF
 refine a6 i149.eq_1 ?_
 intro _
 refine .all (ah _ _ (Nat.lt_succ_self n) (bD lc.eq_1) fun b ad=>?_)
 rw[bJ,if_neg (fun e=>ad e.symm),bJ,if_neg (fun e=>ad e.symm)]
theorem Jw{t:Nat}{h i w bK:Int}(ap:bm g n)(bg:g t=some (lc a.an h i bK (.fn (.func 211) [.ptr t 0] [])))(hw:a.at_ h i w)
 (ah:∀g' n',n<=n'->g' t=some (lc a.an h i w (.fn (.func 265) [.ptr t 0] []))->(∀b,b<n->b≠t->g' b=g b)->K (.bool false) g' n' (a.put h i (fy w 18446744073709551615 1))):aR ct bA 211 [.ptr t 0] g n a K:=by
 simp only[lc]at bg
 have lt:=ap _ _ bg
 refine bE i211 fun N aF=>?_
 refine aL OF bg ?_
 refine Tt hw fun n' az=>?_
 intro dm
 refine aL (aN adJ.eq_1 OF) bg ?_
 apply aF
 refine a6 i211.eq_1 ?_
 intro _
 refine .all (ah _ _ I (bD lc.eq_1) fun b _ ad=>?_)
 rw[bJ,if_neg (fun e=>ad e.symm),bJ,if_neg (fun e=>ad e.symm)]
theorem NL{t:Nat}{h i w bK:Int}(ap:bm g n)(bg:g t=some (lc a.an h i bK (.fn (.func 265) [.ptr t 0] [])))(aC: -1000000<i/\i<1000000)(hw:a.at_ h (i+1) w)
 (J:w≠bK->∀n',n<=n'->K (.bool false) g n' a.tick)
 (U:w=bK->∀g' n',n<=n'->g' t=some (lc a.an h i bK (.fn (.func 317) [.ptr t 0] []))->(∀b,b<n->b≠t->g' b=g b)->K (.bool true) g' n' a.tick):aR ct bA 265 [.ptr t 0] g n a K:=by
 simp only[lc]at bg
 have lt:=ap _ _ bg
 have dA:IntKind.wrap .i64 (i+1)=i+1:=wrap_i64 I I
 refine bE i265 fun N aF=>?_
 refine aL IL (aN bg dA) ?_
 refine rT hw fun n' az=>?_
 intro dm
 by_cases e:w=bK
 .have eE:(w != bK)=false:=by simpa using e
  refine aL (aN MF.eq_1 IL) (aN bg eE) ?_
  apply aF
  refine a6 i265.eq_1 ?_
  intro _
  refine .all (U e _ _ I (bD lc.eq_1) fun b _ ad=>?_)
  rw[bJ,if_neg (fun e=>ad e.symm)]
 .have eE:(w != bK)=true:=by simpa using e
  refine aL (aN MF.eq_1 IL) (aN bg eE) ?_
  apply aF
  refine a6 i265.eq_1 ?_
  exact fun _=>.all (J e _ I)
theorem BZ{t:Nat}{h i bK:Int}{id:FuncId}{first cap:List V}(bg:g t=some (lc a.an h i bK (.fn (.func id) first cap)))(af:aR ct bA id (first++[]++cap) g n a K):aR ct bA 212 [.ptr t 0] g n a K:=by
 simp only[lc]at bg
 refine bE i212 fun N aF=>?_
 refine aL OG bg ?_
 refine aR.mono (by simpa using af) fun v g' n' a' az ah cf=>?_
 refine dl (aN adK.eq_1 OG) ?_
 apply aF
 refine a6 i212.eq_1 ?_
 exact fun _=>.all ah
theorem Jx{h i w:Int}(aC: -1000000<i/\i<1000000)(hw:a.at_ h (i+1) w)(ah:∀n',n<=n'->K (.bool true) g n' (a.put h (i+1) (fy w 18446744073709551615 1))):aR ct bA 236 [.ptr a.an 0,.int .i64 h,.int .i64 i] g n a K:=by
 have dA:IntKind.wrap .i64 (i+1)=i+1:=wrap_i64 I I
 refine bE i236 fun N aF=>?_
 refine aL OL dA ?_
 refine Tt hw fun n' az=>?_
 intro dm
 refine dl (aN adP.eq_1 OL) ?_
 apply aF
 refine a6 i236.eq_1 ?_
 exact fun _=>.all (ah _ I)
end
