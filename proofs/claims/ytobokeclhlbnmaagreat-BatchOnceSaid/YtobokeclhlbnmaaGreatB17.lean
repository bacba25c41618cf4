/- Part of the proof of BatchOnce, for every input. -/
import Derived.Test.YtobokeclhlbnmaaGreatB16
set_option linter.all false
namespace Go.Proofs.Run
open Go Go.Abs
section
variable{p:ew}{a:aE}{z:kA}{k:Int}
theorem D9{pre post:List dP}{e:dP}(h:((pre++e::post).map (·.h)).Nodup):(∀x∈pre,x.h≠e.h)/\(∀x∈post,x.h≠e.h):=by
 rw[List.map_append,List.map_cons,List.nodup_append,List.nodup_cons]at h
 refine⟨fun x aj aD=>h.2.2 x.h (List.mem_map_of_mem aj) e.h aM aD,fun x aj aD=>h.2.1.1 ?_⟩
 rw[<-aD];exact List.mem_map_of_mem aj
theorem ei.Ml(h:ei p a z){pre post:List dP}{e:dP}(af:z.a_ k=pre++e::post)(v:Int):
 ei p (a.put e.h 2 v) {z with a_:=ez z.a_ k (pre++{e with val:=v}::post)}/\(∀ay,z.own ay≠ .room k->(a.put e.h 2 v).ws ay=a.ws ay):=by
 have hJ:e∈z.a_ k:=by rw[af];simp
 have kK:=h.e7 k e hJ
 have ak:=h.room (k:=k) (by rw[af];simp)
 have bp:∀ay,z.own ay≠ .room k->ay≠e.h:=fun ay J aD=>J (by rw[aD];exact kK)
 have aa:=h.jF k
 rw[af,ya]at aa
 obtain⟨qb,mO,sx⟩:=aa
 have gO:=h.de k
 rw[af]at gO
 obtain⟨bq,aT⟩:=D9 gO
 have gn:(pre++{e with val:=v}::post).map (·.h)=(pre++e::post).map (·.h):=aM
 refine⟨⟨h.az.put _ _ _,h.cy,h.an,by rw[hI (bp _ (by rw[h.et];simp))];exact h.root,⟨h.en.len,h.en.bZ,h.en.jY,h.en.cY,h.en.bM,fun a9 a5 J=>?_⟩,fun a9=>?_,fun a9=>?_,h.et,fun a9 x aj=>?_,h.ia,h.of,fun a9 gg=>?_⟩,fun ay au=>hI (bp ay au)⟩
 .by_cases e9:a9=k
  .subst e9
   simp only[h']
   have:=h.en.aH a9 a5 J
   rw[af]at this
   rw[this,uC,uC];rfl
  .simp only[dT _ _ e9];exact h.en.aH a9 a5 J
 .by_cases e9:a9=k
  .subst e9
   simp only[h']
   rw[ya]
   refine⟨qb.congr fun x aj=>hI (bq x aj),?_,sx.congr fun x aj=>hI (aT x aj)⟩
   show(a.put e.h 2 v).ws e.h=_
   rw[oo,mO]
   simp
  .simp only[dT _ _ e9]
   exact(h.jF a9).congr fun x aj=>hI (bp _ (by rw[h.e7 a9 x aj];simp[e9]))
 .by_cases e9:a9=k
  .subst e9;simp only[h'];rw[gn];exact gO
  .simp only[dT _ _ e9];exact h.de a9
 .by_cases e9:a9=k
  .subst e9
   simp only[h',List.mem_append,List.mem_cons]at aj
   rcases aj with aj|rfl|aj
   .exact h.e7 a9 x (by rw[af];simp[aj])
   .exact kK
   .exact h.e7 a9 x (by rw[af];simp[aj])
  .simp only[dT _ _ e9]at aj;exact h.e7 a9 x aj
 .have e9:a9≠k:=fun aD=>gg (by rw[aD];exact ak)
  simp only[dT _ _ e9];exact h.out a9 gg
theorem ei.link(h:ei p a z)(a5:0<=k)(J:k<p.B){pre post:List dP}(af:z.a_ k=pre++post){jP key val:Int}{j:Nat}(au:z.own jP= .lay j)(hw:a.ws jP=some [di post 0,key,val]):
 ∃Ey,ei p (a.put (addr p.R k pre).1 (addr p.R k pre).2 jP) {z with a_:=ez z.a_ k (pre++⟨jP,key,val⟩::post),own:=ez z.own jP (.room k),mY:=Ey}/\(∀ay,z.own ay≠ .room k->ay≠p.R->(a.put (addr p.R k pre).1 (addr p.R k pre).2 jP).ws ay=a.ws ay):=by
 have gO:=h.de k
 rw[af]at gO
 have aa:=h.jF k
 rw[af,ya]at aa
 have ze:jP≠p.R:=fun aD=>by rw[aD,h.et]at au;simp at au
 have xG:∀a9 x,x∈z.a_ a9->x.h≠jP:=fun a9 x aj aD=>by have:=h.e7 a9 x aj;rw[aD,au]at this;simp at this
 have hV:∀ay,z.own ay≠ .lay j->ez z.own jP (.room k) ay=z.own ay:=fun ay U=>dT _ _ (fun aD=>U (by rw[aD];exact au))
 have RY:∀w∈a.queue,w.h≠jP:=fun w hw aD=>by have:=h.ia w hw;rw[aD,au]at this;simp at this
 have aA:=h.en.len
 have Ec:∀a9,∀x∈ez z.a_ k (pre++⟨jP,key,val⟩::post) a9,ez z.own jP (.room k) x.h= .room a9:=by
  intro a9 x aj
  by_cases e9:a9=k
  .subst e9
   simp only[h',List.mem_append,List.mem_cons]at aj
   rcases aj with aj|rfl|aj
   .rw[dT _ _ (xG a9 x (by rw[af];simp[aj]))];exact h.e7 a9 x (by rw[af];simp[aj])
   .rw[h']
   .rw[dT _ _ (xG a9 x (by rw[af];simp[aj]))];exact h.e7 a9 x (by rw[af];simp[aj])
  .rw[dT _ _ e9]at aj
   rw[dT _ _ (xG a9 x aj)];exact h.e7 a9 x aj
 have Tx:∀a9,((ez z.a_ k (pre++⟨jP,key,val⟩::post) a9).map (·.h)).Nodup:=by
  intro a9
  by_cases e9:a9=k
  .subst e9
   rw[h',List.map_append,List.map_cons,List.nodup_append,List.nodup_cons]
   rw[List.map_append,List.nodup_append]at gO
   refine⟨gO.1,⟨fun hm=>?_,gO.2.1⟩,fun x aj y ai aD=>?_⟩
   .simp only[List.mem_map]at hm
    obtain⟨x,aj,aD⟩:=hm
    exact xG a9 x (by rw[af];simp[aj]) aD
   .subst aD
    rcases List.mem_cons.1 ai with rfl|ai
    .simp only[List.mem_map]at aj
     obtain⟨x,aj,aD⟩:=aj
     exact xG a9 x (by rw[af];simp[aj]) aD
    .exact gO.2.2 x aj x ai rfl
  .rw[dT _ _ e9];exact h.de a9
 have Ub:∀a9,¬(0<=a9/\a9<p.B)->ez z.a_ k (pre++⟨jP,key,val⟩::post) a9=[]:=fun a9 gg=>by
  rw[dT _ _ (fun aD=>gg (by rw[aD];exact⟨a5,J⟩))];exact h.out a9 gg
 have Ee:∀ay,ez z.own jP (.room k) ay≠ .none->0<ay/\ay<=a.m.made:=fun ay U=>by
  by_cases aD:ay=jP
  .exact h.of ay (by rw[aD,au];simp)
  .rw[dT _ _ aD]at U;exact h.of ay U
 cases dC:pre.getLast? with
 |none=>
  have:pre=[]:=List.getLast?_eq_none_iff.1 dC
  subst this
  have a3:addr p.R k []=(p.R,bW k+2):=rfl
  simp only[List.nil_append]at af |-
  rw[a3]
  have dR:∀ay,ay≠p.R->(a.put p.R (bW k+2) jP).ws ay=a.ws ay:=fun ay U=>hI U
  have py:∀a9 x,x∈z.a_ a9->x.h≠p.R:=fun a9 x aj aD=>by have:=h.e7 a9 x aj;rw[aD,h.et]at this;simp at this
  refine⟨z.mY.set (bW k+2).toNat jP,⟨h.az.put _ _ _,h.cy,h.an,by rw[oo,h.root];simp,⟨by simpa using aA,?_,?_,fun a9 U aq=>?_,fun a9 U aq=>?_,fun a9 U aq=>?_⟩,fun a9=>?_,Tx,?_,Ec,fun w hw=>?_,Ee,Ub⟩,fun ay _ U=>dR ay U⟩
  .simp only[List.getElem?_set_ne (show(bW k+2).toNat≠0 by unfold bW;omega)];exact h.en.bZ
  .simp only[List.getElem?_set_ne (show(bW k+2).toNat≠1 by unfold bW;omega)];exact h.en.jY
  .simp only[List.getElem?_set_ne (show(bW k+2).toNat≠(bW a9).toNat by unfold bW;omega)];exact h.en.cY a9 U aq
  .simp only[List.getElem?_set_ne (show(bW k+2).toNat≠(bW a9+1).toNat by unfold bW;omega)];exact h.en.bM a9 U aq
  .by_cases e9:a9=k
   .subst e9;simp only[h'];rw[List.getElem?_set_self]
    .rfl
    .rw[aA];unfold bW;omega
   .simp only[dT _ _ e9,List.getElem?_set_ne (show(bW k+2).toNat≠(bW a9+2).toNat by unfold bW;omega)];exact h.en.aH a9 U aq
  .by_cases e9:a9=k
   .subst e9
    simp only[h']
    refine⟨by rw[dR _ ze];exact hw,aa.2.congr fun x aj=>dR _ (py a9 x (by rw[af];exact aj))⟩
   .simp only[dT _ _ e9]
    exact(h.jF a9).congr fun x aj=>dR _ (py a9 x aj)
  .simp only[hV _ (show z.own p.R≠ .lay j by rw[h.et];simp)];exact h.et
  .simp only[hV _ (show z.own w.h≠ .lay j by rw[h.ia w hw];simp)];exact h.ia w hw
 |some e=>
  obtain⟨l,rfl⟩:=List.getLast?_eq_some_iff.1 dC
  have a3:addr p.R k (l++[e])=(e.h,0):=by simp[addr]
  rw[a3]
  have hJ:e∈z.a_ k:=by rw[af];simp
  have kK:=h.e7 k e hJ
  have bp:∀ay,z.own ay≠ .room k->ay≠e.h:=fun ay J aD=>J (by rw[aD];exact kK)
  have dR:∀ay,ay≠e.h->(a.put e.h 0 jP).ws ay=a.ws ay:=fun ay U=>hI U
  have lS:z.a_ k=l++e::post:=by rw[af];simp
  have DE:=h.de k
  rw[lS]at DE
  obtain⟨bq,aT⟩:=D9 DE
  rw[ya]at aa
  refine⟨z.mY,⟨h.az.put _ _ _,h.cy,h.an,by rw[dR _ (bp _ (by rw[h.et];simp))];exact h.root,⟨aA,h.en.bZ,h.en.jY,h.en.cY,h.en.bM,fun a9 U aq=>?_⟩,fun a9=>?_,Tx,?_,Ec,fun w hw=>?_,Ee,Ub⟩,fun ay U _=>dR ay (bp ay U)⟩
  .by_cases e9:a9=k
   .subst e9
    simp only[h']
    have:=h.en.aH a9 U aq
    rw[lS]at this
    rw[this,List.append_assoc,uC,uC];rfl
   .simp only[dT _ _ e9];exact h.en.aH a9 U aq
  .by_cases e9:a9=k
   .subst e9
    simp only[h']
    rw[ya,ya]
    refine⟨⟨aa.1.1.congr fun x aj=>dR _ (bq x aj),?_,trivial⟩,?_,aa.2.congr fun x aj=>dR _ (aT x aj)⟩
    .rw[oo,aa.1.2.1];simp[di]
    .rw[dR _ (fun aD=>by rw[<-aD,au]at kK;simp at kK)];exact hw
   .simp only[dT _ _ e9]
    exact(h.jF a9).congr fun x aj=>dR _ (bp _ (by rw[h.e7 a9 x aj];simp[e9]))
  .simp only[hV _ (show z.own p.R≠ .lay j by rw[h.et];simp)];exact h.et
  .simp only[hV _ (show z.own w.h≠ .lay j by rw[h.ia w hw];simp)];exact h.ia w hw
theorem ei.unlink(h:ei p a z){e:dP}{post:List dP}(af:z.a_ k=e::post):
 ((a.put p.R (bW k+2) (di post 0)).m.has e.h/\(∀w∈a.queue,w.h≠e.h))/\∀b bC fl c_,∃Ey,ei p (((a.put p.R (bW k+2) (di post 0)).push e.h b bC fl).cX c_) {z with a_:=ez z.a_ k post,own:=ez z.own e.h .queue,mY:=Ey}/\(∀ay,z.own ay≠ .queue->z.own ay≠ .room k->ay≠p.R->(((a.put p.R (bW k+2) (di post 0)).push e.h b bC fl).cX c_).ws ay=a.ws ay):=by
 have hJ:e∈z.a_ k:=by rw[af];simp
 have kK:=h.e7 k e hJ
 obtain⟨a5,J⟩:=h.room (k:=k) (by rw[af];simp)
 have aA:=h.en.len
 have gO:=h.de k
 rw[af,List.map_cons,List.nodup_cons]at gO
 have aa:=h.jF k
 rw[af]at aa
 have Dp:e.h≠p.R:=fun aD=>by rw[aD,h.et]at kK;simp at kK
 have py:∀a9 x,x∈z.a_ a9->x.h≠p.R:=fun a9 x aj aD=>by have:=h.e7 a9 x aj;rw[aD,h.et]at this;simp at this
 have zg:∀w∈a.queue,w.h≠e.h:=fun w hw aD=>by have:=h.ia w hw;rw[aD,kK]at this;simp at this
 have xP:∀ay,z.own ay≠ .queue->∀w∈a.queue,w.h≠ay:=fun ay au w hw aD=>au (by rw[<-aD];exact h.ia w hw)
 have R_:∀x∈post,x.h≠e.h:=fun x aj aD=>gO.1 (by rw[<-aD];exact List.mem_map_of_mem aj)
 have hV:∀ay,z.own ay≠ .room k->ez z.own e.h .queue ay=z.own ay:=fun ay U=>dT _ _ (fun aD=>U (by rw[aD];exact kK))
 have g4:=h.az.put p.R (bW k+2) (di post 0)
 refine⟨⟨Ke (l:=[di post 0,e.key,e.val]) (by rw[hI Dp];exact aa.1),zg⟩,fun b bC fl c_=>?_⟩
 have dR:∀ay,z.own ay≠ .queue->ay≠e.h->ay≠p.R->(((a.put p.R (bW k+2) (di post 0)).push e.h b bC fl).cX c_).ws ay=a.ws ay:=fun ay U aq aK=>by
  rw[NP g4 b bC fl c_ (xP ay U) aq,hI aK]
 have tr:0<e.h/\e.h<=a.m.made:=h.of e.h (by rw[kK];simp)
 refine⟨z.mY.set (bW k+2).toNat (di post 0),⟨g4.push zg tr b bC fl c_,h.cy,?_,?_,⟨by simpa using aA,?_,?_,fun a9 U aq=>?_,fun a9 U aq=>?_,fun a9 U aq=>?_⟩,fun a9=>?_,fun a9=>?_,?_,fun a9 x aj=>?_,fun w hw=>?_,fun ay U=>?_,fun a9 gg=>?_⟩,fun ay U aq aK=>dR ay U (fun aD=>aq (by rw[aD];exact kK)) aK⟩
 .obtain⟨_,hm,_⟩:=tz ((a.put p.R (bW k+2) (di post 0)).push e.h b bC fl).queue ((a.put p.R (bW k+2) (di post 0)).push e.h b bC fl).m
  show(((a.put p.R (bW k+2) (di post 0)).push e.h b bC fl).m.cX _).made<1000000
  rw[hm];exact h.an
 .rw[NP g4 b bC fl c_ (xP p.R (by rw[h.et];simp)) (fun aD=>Dp aD.symm),oo,h.root];simp
 .simp only[List.getElem?_set_ne (show(bW k+2).toNat≠0 by unfold bW;omega)];exact h.en.bZ
 .simp only[List.getElem?_set_ne (show(bW k+2).toNat≠1 by unfold bW;omega)];exact h.en.jY
 .simp only[List.getElem?_set_ne (show(bW k+2).toNat≠(bW a9).toNat by unfold bW;omega)];exact h.en.cY a9 U aq
 .simp only[List.getElem?_set_ne (show(bW k+2).toNat≠(bW a9+1).toNat by unfold bW;omega)];exact h.en.bM a9 U aq
 .by_cases e9:a9=k
  .subst e9;simp only[h'];rw[List.getElem?_set_self];rw[aA];unfold bW;omega
  .simp only[dT _ _ e9,List.getElem?_set_ne (show(bW k+2).toNat≠(bW a9+2).toNat by unfold bW;omega)];exact h.en.aH a9 U aq
 .by_cases e9:a9=k
  .subst e9
   simp only[h']
   exact aa.2.congr fun x aj=>dR _ (by rw[h.e7 a9 x (by rw[af];simp[aj])];simp) (R_ x aj) (py a9 x (by rw[af];simp[aj]))
  .simp only[dT _ _ e9]
   exact(h.jF a9).congr fun x aj=>dR _ (by rw[h.e7 a9 x aj];simp) (fun aD=>by have:=h.e7 a9 x aj;rw[aD,kK]at this;simp at this;exact e9 this.symm) (py a9 x aj)
 .by_cases e9:a9=k
  .subst e9;simp only[h'];exact gO.2
  .simp only[dT _ _ e9];exact h.de a9
 .simp only[hV _ (show z.own p.R≠ .room k by rw[h.et];simp)];exact h.et
 .by_cases e9:a9=k
  .subst e9
   simp only[h']at aj
   simp only[dT _ _ (R_ x aj)]
   exact h.e7 a9 x (by rw[af];simp[aj])
  .simp only[dT _ _ e9]at aj
   have xT:=h.e7 a9 x aj
   simp only[hV _ (show z.own x.h≠ .room k by rw[xT];simp[e9])];exact xT
 .rcases adg b bC fl c_ w hw with aD|⟨w',hb,aD⟩
  .simp only[aD,h']
  .rw[<-aD]
   simp only[dT _ _ (zg w' hb)]
   exact h.ia w' hb
 .obtain⟨_,hm,_⟩:=tz ((a.put p.R (bW k+2) (di post 0)).push e.h b bC fl).queue ((a.put p.R (bW k+2) (di post 0)).push e.h b bC fl).m
  show 0<ay/\ay<=(((a.put p.R (bW k+2) (di post 0)).push e.h b bC fl).m.cX _).made
  rw[hm]
  by_cases aD:ay=e.h
  .rw[aD];exact tr
  .simp only[dT _ _ aD]at U;exact h.of ay U
 .have e9:a9≠k:=fun aD=>gg (by rw[aD];exact⟨a5,J⟩)
  simp only[dT _ _ e9];exact h.out a9 gg
theorem ei.oj(h:ei p a z)(hm:a.m.made<30000):a.queue.length<40000:=by
 have:=h.az.oj (m:=30000) I;omega
theorem ei.enter(h:ei p a z){x:Int}(aj:x∉a.inside):ei p (a.enter x) z:=⟨h.az.enter aj,h.cy,h.an,h.root,h.en,h.jF,h.de,h.et,h.e7,h.ia,h.of,h.out⟩
theorem ei.leave(h:ei p a z)(x:Int)(bC:V):ei p ((a.out x).cX bC) z/\∀ay,z.own ay≠ .queue->((a.out x).cX bC).ws ay=a.ws ay:=by
 have xP:∀ay,z.own ay≠ .queue->∀w∈a.queue,w.h≠ay:=fun ay au w hw aD=>au (by rw[<-aD];exact h.ia w hw)
 have dR:∀ay,z.own ay≠ .queue->((a.out x).cX bC).ws ay=a.ws ay:=fun ay au=>asV bC (xP ay au)
 obtain⟨_,hm,_⟩:=tz (a.out x).queue (a.out x).m
 refine⟨⟨h.az.out x bC,h.cy,?_,by rw[dR _ (by rw[h.et];simp)];exact h.root,h.en,fun k=>(h.jF k).congr fun y ai=>dR _ (by rw[h.e7 k y ai];simp),h.de,h.et,h.e7,fun w hw=>?_,fun ay au=>?_,h.out⟩,dR⟩
 .show((a.out x).m.cX _).made<1000000
  rw[hm];exact h.an
 .obtain⟨w',hb,aD⟩:=adf bC w hw
  rw[<-aD];exact h.ia w' hb
 .show 0<ay/\ay<=((a.out x).m.cX _).made
  rw[hm];exact h.of ay au
end
section
structure jb where
 cd:gk
 aC:Int
 cS:Int
 vs:List Int
 hZ:Bool
def jb.off:jb:=⟨.none,0,0,[],false⟩
def ms(c:Int->Int):Nat->Int
 |0=>0
 |n+1=>ms c n+c n
theorem aso{c c':Int->Int}:∀{n:Nat},(∀k:Int,0<=k->k<n->c' k=c k)->ms c' n=ms c n
 |0,_=>rfl
 |n+1,h=>by
  simp only[ms]
  rw[aso (fun k a5 J=>h k a5 I),h n I I]
theorem Nu{c:Int->Int}{k x:Int}:∀{n:Nat},0<=k->k<n->ms (ez c k x) n=ms c n+(x-c k)
 |0,a5,J=>I
 |n+1,a5,J=>by
  simp only[ms]
  by_cases e:k=n
  .subst e
   rw[h',aso (c:=c) (c':=ez c n x) fun a9 U aq=>dT _ _ I]
   omega
  .rw[Nu a5 I,dT _ _ I];omega
theorem H7{c:Int->Int}:∀{n:Nat},(∀a9:Int,0<=a9->a9<n->0<=c a9)->0<=ms c n
 |0,_=>Int.le_refl _
 |n+1,h=>by
  simp only[ms]
  have:=H7 (n:=n) fun a9 U aq=>h a9 U I
  have:=h n I I
  omega
theorem Nt{c:Int->Int}{k:Int}:∀{n:Nat},0<=k->k<n->(∀a9:Int,0<=a9->a9<n->0<=c a9)->c k<=ms c n/\0<=ms c n
 |0,a5,J,_=>I
 |n+1,a5,J,h=>by
  simp only[ms]
  have az:=h n I I
  by_cases e:k=n
  .subst e
   have:0<=ms c n:=H7 fun a9 U aq=>h a9 U I
   omega
  .have:=Nt (n:=n) a5 I fun a9 U aq=>h a9 U I
   omega
def jR(f:Nat->Int):Int:=f 0+(f 1+(f 2+(f 3+f 4)))
theorem sR{β:Type}{f:Nat->β}{w:β->Int}{j:Nat}(ax:j<5)(x:β):jR (fun i=>w (bT f j x i))=jR (fun i=>w (f i))+(w x-w (f j)):=by
 match j,ax with
 |0,_=>simp[jR,bT];omega
 |1,_=>simp[jR,bT];omega
 |2,_=>simp[jR,bT];omega
 |3,_=>simp[jR,bT];omega
 |4,_=>simp[jR,bT];omega
theorem E1{w:Nat->Int}{j:Nat}(ax:j<5)(h:∀i,i<5->0<=w i):w j<=jR w/\0<=jR w:=by
 have a5:=h 0 I
 have J:=h 1 I
 have U:=h 2 I
 have aq:=h 3 I
 have aK:=h 4 I
 unfold jR
 match j,ax with
 |0,_=>omega
 |1,_=>omega
 |2,_=>omega
 |3,_=>omega
 |4,_=>omega
def bZ(v:Int)(l:List Int):Int:=(l.count v:Int)
theorem sh(v:Int)(l:List Int):0<=bZ v l:=by unfold bZ;omega
theorem rA(v:Int)(l l':List Int):bZ v (l++l')=bZ v l+bZ v l':=by unfold bZ;rw[List.count_append];omega
theorem rB(v x:Int)(l:List Int):bZ v (x::l)=bZ v l+bZ v [x]:=by
 unfold bZ;rw[List.count_cons,List.count_cons];simp
theorem vu(v:Int):bZ v []=0:=rfl
theorem Qe{v:Int}{l:List Int}(h:v∈l):0<bZ v l:=by
 have:=List.count_pos_iff.2 h;unfold bZ;omega
def k9(hZ:Bool)(l:List dP):List Int:=(if hZ then l.tail else l).map (·.val)
def mu(n:Nat)(cF:Int->List Int)(cN:Nat->jb)(told:List Int)(v:Int):Int:=ms (fun k=>bZ v (cF k)) n+(jR (fun j=>bZ v (cN j).vs)+bZ v told)
structure aud(cN:Nat->jb)(k:Int)(l:List dP)(c:Int)(cF:List Int):Prop where
 dF:0<=c
 idle:(∀j,j<5->(cN j).cd≠ .hold k)->c=l.length/\cF=k9 false l
 held:∀j,j<5->(cN j).cd= .hold k->c=l.length+(cN j).cS/\cF=k9 (cN j).hZ l
structure hS(B:Nat)(E:Int)(a_:Int->List dP)(cY bM:Int->Int)(L H:Int)(cN:Nat->jb)(told:List Int)(laid:Int)(N:Int):Prop where
 cd:∀k:Int,0<=k->k<B->kU k (cY k) (bM k) (fun j=>(cN j).cd)/\cY k<=N
 mW:∀j,j<5->(match(cN j).cd with| .none=>True| .wait k _=>0<=k/\k<B| .hold k=>0<=k/\k<B)
 H:H=jR (fun j=>(cN j).aC)
 aC:∀j,j<5->0<=(cN j).aC/\(cN j).aC<=1
 LE:L<=E
 ex:∃c cF,ms c B=L/\(∀k:Int,0<=k->k<B->aud cN k (a_ k) (c k) (cF k))/\(∀v,mu B cF cN told v<=1)/\(∀v,0<mu B cF cN told v->1<=v/\v<=laid)
variable{B:Nat}{E:Int}{a_:Int->List dP}{cY bM:Int->Int}{L H:Int}{cN:Nat->jb}{told:List Int}{laid N:Int}{j:Nat}{k:Int}
theorem CP(cN:Nat->jb)(j:Nat)(x:jb):(fun i=>(bT cN j x i).cd)=bT (fun i=>(cN i).cd) j x.cd:=by
 funext i;by_cases h:i=j
 .subst h;simp[bT]
 .simp[bT,h]
theorem gz{β:Type}(f:Nat->β)(j:Nat):bT f j (f j)=f:=by
 funext i;by_cases h:i=j
 .subst h;simp[bT]
 .simp[bT,h]
theorem hS.inner(h:hS B E a_ cY bM L H cN told laid N)(ax:j<5)(aA:(cN j).cd= .hold k){x:jb}(aj:x.cd= .hold k){l':List dP}{iF An:Int}
 (af:(l'.length:Int)+x.cS- ((a_ k).length+(cN j).cS)=iF-L) (nc:0<=(l'.length:Int)+x.cS) (ih:iF<=E)
 (te:An=H+(x.aC- (cN j).aC)) (y8:0<=x.aC/\x.aC<=1)
 (hv:∀v,bZ v (k9 x.hZ l')+bZ v x.vs<=bZ v (k9 (cN j).hZ (a_ k))+bZ v (cN j).vs):
 hS B E (ez a_ k l') cY bM iF An (bT cN j x) told laid (N+1):=by
 have j2:=h.mW j ax
 rw[aA]at j2
 obtain⟨hU,kr⟩:=j2
 obtain⟨c,cF,J,U,aq,aK⟩:=h.ex
 have cZ:=(U k hU kr).held j ax aA
 have CG:(fun i=>(bT cN j x i).cd)=fun i=>(cN i).cd:=by rw[CP,aj,<-aA];exact gz (fun i=>(cN i).cd) j
 have gC:∀v,mu B (ez cF k (k9 x.hZ l')) (bT cN j x) told v<=mu B cF cN told v:=fun v=>by
  unfold mu
  have aD:(fun a9=>bZ v (ez cF k (k9 x.hZ l') a9))=ez (fun a9=>bZ v (cF a9)) k (bZ v (k9 x.hZ l')):=by
   funext a9;by_cases e:a9=k
   .subst e;simp[ez]
   .simp[ez,e]
  rw[aD,Nu hU kr,sR (w:=fun y:jb=>bZ v y.vs) ax x]
  have:=hv v
  rw[cZ.2]
  omega
 refine⟨fun a9 bx cp=>?_,fun i aC=>?_,?_,fun i aC=>?_,ih,ez c k (l'.length+x.cS),ez cF k (k9 x.hZ l'),?_,fun a9 bx cp=>?_,fun v=>Int.le_trans (gC v) (aq v),fun v rP=>aK v (Int.lt_of_lt_of_le rP (gC v))⟩
 .rw[CG];have:=h.cd a9 bx cp;exact⟨this.1,I⟩
 .have:(bT cN j x i).cd=(cN i).cd:=congrFun CG i
  rw[this];exact h.mW i aC
 .rw[sR (w:=fun y:jb=>y.aC) ax x,te,h.H]
 .by_cases e:i=j
  .subst e;rw[ek];exact y8
  .rw[gL _ _ e];exact h.aC i aC
 .rw[Nu hU kr,cZ.1];omega
 .by_cases e9:a9=k
  .subst e9
   rw[h',h',h']
   refine⟨nc,fun dy=>absurd (by rw[ek];exact aj) (dy j ax),fun i aC zd=>?_⟩
   have A8:(cN i).cd= .hold a9:=by rw[<-congrFun CG i];exact zd
   have:i=j:=(h.cd a9 bx cp).1.H4 aC ax A8 aA
   subst this
   rw[ek];exact⟨rfl,rfl⟩
  .rw[dT _ _ e9,dT _ _ e9,dT _ _ e9]
   obtain⟨gJ,fV,fW⟩:=U a9 bx cp
   have Qx:∀i,(bT cN j x i).cd=(cN i).cd:=fun i=>congrFun CG i
   refine⟨gJ,fun dy=>fV fun i aC=>by rw[<-Qx i];exact dy i aC,fun i aC zd=>?_⟩
   have A8:(cN i).cd= .hold a9:=by rw[<-Qx i];exact zd
   have fq:i≠j:=fun e=>by rw[e,aA]at A8;simp at A8;exact e9 A8.symm
   rw[gL _ _ fq];exact fW i aC A8
end
section
variable{B:Nat}{E:Int}{a_:Int->List dP}{cY bM:Int->Int}{L H:Int}{cN:Nat->jb}{told:List Int}{laid N:Int}{j:Nat}{k:Int}
theorem hS.outer(h:hS B E a_ cY bM L H cN told laid N)(ax:j<5)(aA:∀k,(cN j).cd≠ .hold k){x:jb}(aj:∀k,x.cd≠ .hold k){Ny asB:Int->Int}{z8:List Int}{G3:Int}
 (eU:∀k:Int,0<=k->k<B->kU k (Ny k) (asB k) (bT (fun i=>(cN i).cd) j x.cd)/\Ny k<=N+1)
 (j2:match x.cd with| .none=>True| .wait k _=>0<=k/\k< (B:Int)| .hold k=>0<=k/\k< (B:Int))
 (a5:(cN j).aC=0) (J:x.aC=0)
 (hv:∀v,bZ v x.vs+bZ v z8<=bZ v (cN j).vs+bZ v told\/((∀w,mu B (fun _=>[]) cN told w<=1)/\v=laid+1/\laid<G3/\bZ v x.vs+bZ v z8<=1+(bZ v (cN j).vs+bZ v told))) (kJ:laid<=G3) (RO:0<=laid):
 hS B E a_ Ny asB L H (bT cN j x) z8 G3 (N+1):=by
 obtain⟨c,cF,U,aq,aK,bx⟩:=h.ex
 have gC:∀v,mu B cF (bT cN j x) z8 v<=mu B cF cN told v\/(v=laid+1/\laid<G3/\mu B cF (bT cN j x) z8 v<=1):=fun v=>by
  have e:mu B cF (bT cN j x) z8 v=mu B cF cN told v+(bZ v x.vs-bZ v (cN j).vs+bZ v z8-bZ v told):=by
   unfold mu
   rw[sR (w:=fun y:jb=>bZ v y.vs) ax x];omega
  rcases hv v with h|⟨_,h,cp,fI⟩
  .left;omega
  .right
   refine⟨h,cp,?_⟩
   have mI:=bx v
   have p1:¬0<mu B cF cN told v:=fun aB=>by have:=mI aB;omega
   omega
 have CG:∀i,(bT cN j x i).cd=bT (fun i=>(cN i).cd) j x.cd i:=fun i=>congrFun (CP cN j x) i
 refine⟨fun a9 cp fI=>by rw[CP];exact eU a9 cp fI,fun i aC=>?_,?_,fun i aC=>?_,h.LE,c,cF,U,fun a9 cp fI=>?_,fun v=>?_,fun v aB=>?_⟩
 .by_cases e:i=j
  .subst e;rw[ek];exact j2
  .rw[gL _ _ e];exact h.mW i aC
 .rw[sR (w:=fun y:jb=>y.aC) ax x,a5,J,h.H];omega
 .by_cases e:i=j
  .subst e;rw[ek,J];omega
  .rw[gL _ _ e];exact h.aC i aC
 .obtain⟨gJ,fV,fW⟩:=aq a9 cp fI
  refine⟨gJ,fun dy=>fV fun i aC e=>?_,fun i aC e=>?_⟩
  .by_cases lP:i=j
   .rw[lP]at e;exact aA a9 e
   .exact dy i aC (by rw[gL _ _ lP];exact e)
  .by_cases lP:i=j
   .subst lP;rw[ek]at e;exact absurd e (aj a9)
   .rw[gL _ _ lP]at e |-;exact fW i aC e
 .rcases gC v with h|⟨_,_,h⟩
  .exact Int.le_trans h (aK v)
  .exact h
 .rcases gC v with h|⟨rfl,h,_⟩
  .have:=bx v (Int.lt_of_lt_of_le aB h);omega
  .omega
theorem hS.draw(h:hS B E a_ cY bM L H cN told laid N)(ax:j<5)(ah:0<=k/\k<B)(aA:(cN j).cd= .none)(a5:(cN j).aC=0)(kJ:0<=laid){x:jb}(aj:x.cd= .wait k (cY k))(J:x.aC=0)(hv:∀v,bZ v x.vs<=bZ v (cN j).vs):
 hS B E a_ (ez cY k (cY k+1)) bM L H (bT cN j x) told laid (N+1):=by
 refine h.outer ax (fun a9=>by rw[aA];simp) (fun a9=>by rw[aj];simp) (fun a9 U aq=>?_) (by rw[aj];exact ah) a5 J (fun v=>.inl (by have:=hv v;omega)) (Int.le_refl _) kJ
 obtain⟨aK,bx⟩:=h.cd a9 U aq
 rw[aj]
 by_cases e:a9=k
 .subst e
  rw[h']
  exact⟨aK.draw ax aA,I⟩
 .rw[dT _ _ e]
  refine⟨aK.other (by show gk.T (bM a9) a9 (cN j).cd=_;rw[aA];rfl) (by simp[gk.T];exact fun aJ=>e aJ.symm),I⟩
theorem hS.go(h:hS B E a_ cY bM L H cN told laid N)(ax:j<5)(aA:(cN j).cd= .wait k (bM k))(a5:(cN j).aC=0){x:jb}(aj:x.cd= .hold k)(J:x.aC=0)(pu:x.cS=0)(lH:x.hZ=false)(hv:∀v,bZ v x.vs<=bZ v (cN j).vs):
 hS B E a_ cY bM L H (bT cN j x) told laid (N+1):=by
 have ah:=h.mW j ax
 rw[aA]at ah
 obtain⟨hU,kr⟩:=ah
 obtain⟨c,cF,U,aq,aK,bx⟩:=h.ex
 have RI:∀i,i<5->(cN i).cd≠ .hold k:=fun i aC e=>by
  have:=(h.cd k hU kr).1.inj i j aC ax (bM k) (by show gk.T (bM k) k (cN i).cd=_;rw[e];simp[gk.T]) (by show gk.T (bM k) k (cN j).cd=_;rw[aA];simp[gk.T])
  rw[this,aA]at e;simp at e
 have gC:∀v,mu B cF (bT cN j x) told v<=mu B cF cN told v:=fun v=>by
  unfold mu
  rw[sR (w:=fun y:jb=>bZ v y.vs) ax x]
  have:=hv v;omega
 refine⟨fun a9 cp fI=>?_,fun i aC=>?_,?_,fun i aC=>?_,h.LE,c,cF,U,fun a9 cp fI=>?_,fun v=>Int.le_trans (gC v) (aK v),fun v aB=>bx v (Int.lt_of_lt_of_le aB (gC v))⟩
 .rw[CP,aj]
  obtain⟨mI,p1⟩:=h.cd a9 cp fI
  by_cases e:a9=k
  .subst e;exact⟨mI.go aA,I⟩
  .refine⟨mI.other ?_ ?_,I⟩
   .show gk.T (bM a9) a9 (cN j).cd=_
    rw[aA];simp[gk.T];exact fun aJ=>e aJ.symm
   .simp[gk.T];exact fun aJ=>e aJ.symm
 .by_cases e:i=j
  .subst e;rw[ek,aj];exact⟨hU,kr⟩
  .rw[gL _ _ e];exact h.mW i aC
 .rw[sR (w:=fun y:jb=>y.aC) ax x,a5,J,h.H];omega
 .by_cases e:i=j
  .subst e;rw[ek,J];omega
  .rw[gL _ _ e];exact h.aC i aC
 .obtain⟨gJ,fV,fW⟩:=aq a9 cp fI
  by_cases e:a9=k
  .subst e
   obtain⟨c6,cO⟩:=fV RI
   refine⟨gJ,fun dy=>absurd (by rw[ek];exact aj) (dy j ax),fun i aC e=>?_⟩
   by_cases lP:i=j
   .subst lP;rw[ek,pu,lH];exact⟨I,cO⟩
   .rw[gL _ _ lP]at e;exact absurd e (RI i aC)
  .refine⟨gJ,fun dy=>fV fun i aC aJ=>?_,fun i aC aJ=>?_⟩
   .by_cases lP:i=j
    .rw[lP,aA]at aJ;simp at aJ
    .exact dy i aC (by rw[gL _ _ lP];exact aJ)
   .by_cases lP:i=j
    .subst lP;rw[ek,aj]at aJ;simp at aJ;exact absurd aJ.symm e
    .rw[gL _ _ lP]at aJ |-;exact fW i aC aJ
theorem hS.leave(h:hS B E a_ cY bM L H cN told laid N)(ax:j<5)(aA:(cN j).cd= .hold k)(a5:(cN j).aC=0)(pu:(cN j).cS=0)(lH:(cN j).hZ=false){x:jb}(aj:x.cd= .none)(J:x.aC=0)(hv:∀v,bZ v x.vs<=bZ v (cN j).vs):
 hS B E a_ cY (ez bM k (bM k+1)) L H (bT cN j x) told laid (N+1):=by
 have ah:=h.mW j ax
 rw[aA]at ah
 obtain⟨hU,kr⟩:=ah
 obtain⟨c,cF,U,aq,aK,bx⟩:=h.ex
 have gC:∀v,mu B cF (bT cN j x) told v<=mu B cF cN told v:=fun v=>by
  unfold mu
  rw[sR (w:=fun y:jb=>bZ v y.vs) ax x]
  have:=hv v;omega
 have aA3:∀i,i<5->i≠j->(cN i).cd≠ .hold k:=fun i aC fq e=>fq ((h.cd k hU kr).1.H4 aC ax e aA)
 refine⟨fun a9 cp fI=>?_,fun i aC=>?_,?_,fun i aC=>?_,h.LE,c,cF,U,fun a9 cp fI=>?_,fun v=>Int.le_trans (gC v) (aK v),fun v aB=>bx v (Int.lt_of_lt_of_le aB (gC v))⟩
 .rw[CP,aj]
  obtain⟨mI,p1⟩:=h.cd a9 cp fI
  by_cases e:a9=k
  .subst e;rw[h'];exact⟨mI.leave ax aA,I⟩
  .rw[dT _ _ e]
   refine⟨mI.other ?_ ?_,I⟩
   .show gk.T (bM a9) a9 (cN j).cd=_
    rw[aA];simp[gk.T];exact fun aJ=>e aJ.symm
   .simp[gk.T]
 .by_cases e:i=j
  .subst e;rw[ek,aj];trivial
  .rw[gL _ _ e];exact h.mW i aC
 .rw[sR (w:=fun y:jb=>y.aC) ax x,a5,J,h.H];omega
 .by_cases e:i=j
  .subst e;rw[ek,J];omega
  .rw[gL _ _ e];exact h.aC i aC
 .obtain⟨gJ,fV,fW⟩:=aq a9 cp fI
  by_cases e:a9=k
  .subst e
   obtain⟨c6,cO⟩:=fW j ax aA
   rw[pu]at c6
   rw[lH]at cO
   refine⟨gJ,fun dy=>⟨I,cO⟩,fun i aC e=>?_⟩
   by_cases lP:i=j
   .subst lP;rw[ek,aj]at e;simp at e
   .rw[gL _ _ lP]at e;exact absurd e (aA3 i aC lP)
  .refine⟨gJ,fun dy=>fV fun i aC aJ=>?_,fun i aC aJ=>?_⟩
   .by_cases lP:i=j
    .rw[lP,aA]at aJ;simp at aJ;exact e aJ.symm
    .exact dy i aC (by rw[gL _ _ lP];exact aJ)
   .by_cases lP:i=j
    .subst lP;rw[ek,aj]at aJ;simp at aJ
    .rw[gL _ _ lP]at aJ |-;exact fW i aC aJ
theorem hS.len(h:hS B E a_ cY bM L H cN told laid N)(ax:j<5)(aA:(cN j).cd= .hold k)(pu:(cN j).cS=0):((a_ k).length:Int)<=L/\0<=L:=by
 have ah:=h.mW j ax
 rw[aA]at ah
 obtain⟨c,cF,U,aq,aK,bx⟩:=h.ex
 obtain⟨gJ,fV,fW⟩:=aq k ah.1 ah.2
 have:=(fW j ax aA).1
 have:=Nt (c:=c) (n:=B) ah.1 ah.2 fun a9 cp fI=>(aq a9 cp fI).dF
 omega
theorem hS.N7(h:hS B E a_ cY bM L H cN told laid N):0<=L:=by
 obtain⟨c,cF,U,aq,aK,bx⟩:=h.ex
 have:=@H7 c B fun a9 cp fI=>(aq a9 cp fI).dF
 omega
theorem hS.tick(h:hS B E a_ cY bM L H cN told laid N):hS B E a_ cY bM L H cN told laid (N+1):=
 ⟨fun k a5 J=>by have:=h.cd k a5 J;exact⟨this.1,I⟩,h.mW,h.H,h.aC,h.LE,h.ex⟩
end
def yv(a:aE)(z:kA)(j:Nat)(u:gD):Prop:=0<u.made/\z.own u.made= .lay j/\a.ws u.made=some [u.a7,u.key,u.val]
def s5(p:ew)(z:kA)(u:gD)(pre post:List dP):Prop:=z.a_ u.room=pre++post/\(u.bk,u.bo)=addr p.R u.room pre
def Fp(p:ew)(u:gD):Prop:=0<=u.fu/\u.fu<p.E
def eH(p:ew)(a:aE)(z:kA)(j:Nat)(u:gD)(r:Nat):Prop:=
 match u.aY with
 | .draw=>u.made=0/\r=18+2*p.E.toNat
 | .wait _=>u.made=0/\r=17+2*p.E.toNat
 | .go=>u.made=0/\r=16+2*p.E.toNat
 | .load=>u.made=0/\∃pre post,s5 p z u pre post/\r=15+2*post.length
 | .ask=>u.made=0/\∃pre e post,s5 p z u pre (e::post)/\u.a7=e.h/\r=16+2*post.length
 | .set=>∃pre e post,s5 p z u pre (e::post)/\u.a7=e.h/\r=3
 | .space=>∃pre post,s5 p z u pre post/\u.a7=di post 0/\((u.made=0/\r=14)\/(yv a z j u/\r=7))
 | .make=>∃pre post,s5 p z u pre post/\u.a7=di post 0/\u.made=0/\Fp p u/\r=13
 | .fill i=>∃pre post,s5 p z u pre post/\u.a7=di post 0/\(0<u.made/\z.own u.made= .lay j)/\Fp p u/\((i=3/\a.ws u.made=some [0,0,0])\/(i=2/\a.ws u.made=some [0,0,u.val])\/(i=1/\a.ws u.made=some [0,u.key,u.val]))/\r=9+i
 | .jY=>∃pre post,s5 p z u pre post/\u.a7=di post 0/\yv a z j u/\Fp p u/\r=9
 | .add=>∃pre post,s5 p z u pre post/\u.a7=di post 0/\yv a z j u/\Fp p u/\r=if u.fu=z.L then 6 else 8
 | .link=>∃pre post,s5 p z u pre post/\u.a7=di post 0/\yv a z j u/\r=3
 | .leave=>r=2
 | .done=>r=0
def yw(p:ew)(a:aE)(z:kA)(j:Nat)(u:gD)(r:Nat):Prop:=(dZ u.key/\dZ u.val)/\(0<=u.room/\u.room<p.B)/\eH p a z j u r
def cD(u:gD):jb:=
 match u.aY with
 | .draw=>⟨.none,0,0,[u.val],false⟩
 | .wait bK=>⟨.wait u.room bK,0,0,[u.val],false⟩
 | .done=>.off
 | .leave=>⟨.hold u.room,0,0,[],false⟩
 | .link=>⟨.hold u.room,0,1,[u.val],false⟩
 |_=>⟨.hold u.room,0,0,[u.val],false⟩
theorem yv.frame{a a':aE}{z z':kA}{j:Nat}{u:gD}(h:yv a z j u)(au:∀ay,z.own ay= .lay j->z'.own ay= .lay j/\a'.ws ay=a.ws ay):yv a' z' j u:=
 ⟨h.1,(au _ h.2.1).1,by rw[(au _ h.2.1).2];exact h.2.2⟩
theorem yw.frame{p:ew}{a a':aE}{z z':kA}{j:Nat}{u:gD}{r:Nat}(h:yw p a z j u r)(gf:∀k,(cD u).cd= .hold k->z'.a_ k=z.a_ k)(au:∀ay,z.own ay= .lay j->z'.own ay= .lay j/\a'.ws ay=a.ws ay):
 ∃r',yw p a' z' j u r'/\r'<=r+2/\(z'.L=z.L->r'=r):=by
 obtain⟨hw,ak,aB⟩:=h
 have kH:∀{pre post:List dP},(cD u).cd= .hold u.room->s5 p z u pre post->s5 p z' u pre post:=fun aA h=>⟨by rw[gf _ aA];exact h.1,h.2⟩
 cases bh:u.aY with
 |draw=>simp only[eH,bh]at aB;exact⟨r,⟨hw,ak,by simp only[eH,bh];exact aB⟩,I,fun _=>rfl⟩
 |wait t=>simp only[eH,bh]at aB;exact⟨r,⟨hw,ak,by simp only[eH,bh];exact aB⟩,I,fun _=>rfl⟩
 |go=>simp only[eH,bh]at aB;exact⟨r,⟨hw,ak,by simp only[eH,bh];exact aB⟩,I,fun _=>rfl⟩
 |leave=>simp only[eH,bh]at aB;exact⟨r,⟨hw,ak,by simp only[eH,bh];exact aB⟩,I,fun _=>rfl⟩
 |done=>simp only[eH,bh]at aB;exact⟨r,⟨hw,ak,by simp only[eH,bh];exact aB⟩,I,fun _=>rfl⟩
 |load=>
  simp only[eH,bh]at aB
  obtain⟨J,pre,post,U,aq⟩:=aB
  exact⟨r,⟨hw,ak,by simp only[eH,bh];exact⟨J,pre,post,kH (by simp[cD,bh]) U,aq⟩⟩,I,fun _=>rfl⟩
 |ask=>
  simp only[eH,bh]at aB
  obtain⟨J,pre,e,post,U,aq⟩:=aB
  exact⟨r,⟨hw,ak,by simp only[eH,bh];exact⟨J,pre,e,post,kH (by simp[cD,bh]) U,aq⟩⟩,I,fun _=>rfl⟩
 |set=>
  simp only[eH,bh]at aB
  obtain⟨pre,e,post,U,aq⟩:=aB
  exact⟨r,⟨hw,ak,by simp only[eH,bh];exact⟨pre,e,post,kH (by simp[cD,bh]) U,aq⟩⟩,I,fun _=>rfl⟩
 |space=>
  simp only[eH,bh]at aB
  obtain⟨pre,post,U,aq,aK⟩:=aB
  exact⟨r,⟨hw,ak,by simp only[eH,bh];exact⟨pre,post,kH (by simp[cD,bh]) U,aq,aK.imp id fun h=>⟨h.1.frame au,h.2⟩⟩⟩,I,fun _=>rfl⟩
 |make=>
  simp only[eH,bh]at aB
  obtain⟨pre,post,U,aq⟩:=aB
  exact⟨r,⟨hw,ak,by simp only[eH,bh];exact⟨pre,post,kH (by simp[cD,bh]) U,aq⟩⟩,I,fun _=>rfl⟩
 |fill i=>
  simp only[eH,bh]at aB
  obtain⟨pre,post,U,aq,aK,bx,cp,fI⟩:=aB
  have mI:=au _ aK.2
  exact⟨r,⟨hw,ak,by simp only[eH,bh];exact⟨pre,post,kH (by simp[cD,bh]) U,aq,⟨aK.1,mI.1⟩,bx,by rw[mI.2];exact cp,fI⟩⟩,I,fun _=>rfl⟩
 |jY=>
  simp only[eH,bh]at aB
  obtain⟨pre,post,U,aq,aK,bx⟩:=aB
  exact⟨r,⟨hw,ak,by simp only[eH,bh];exact⟨pre,post,kH (by simp[cD,bh]) U,aq,aK.frame au,bx⟩⟩,I,fun _=>rfl⟩
 |add=>
  simp only[eH,bh]at aB
  obtain⟨pre,post,U,aq,aK,bx,cp⟩:=aB
  refine⟨if u.fu=z'.L then 6 else 8,⟨hw,ak,by simp only[eH,bh];exact⟨pre,post,kH (by simp[cD,bh]) U,aq,aK.frame au,bx,trivial⟩⟩,?_,fun e=>by rw[cp,e]⟩
  rw[cp];split<;>split<;>omega
 |link=>
  simp only[eH,bh]at aB
  obtain⟨pre,post,U,aq,aK,bx⟩:=aB
  exact⟨r,⟨hw,ak,by simp only[eH,bh];exact⟨pre,post,kH (by simp[cD,bh]) U,aq,aK.frame au,bx⟩⟩,I,fun _=>rfl⟩
inductive w7(V R L:Type) where
 |none
 |lay (l:L)
 |b_ (k:Int) (v:V)
 |stay (k:Int) (v:V) (i c:Nat)
 |take (k:Int) (r:R) (i c:Nat)
 |leave (k:Int) (r:R)
def e2(r:Nat->Nat):Nat:=r 0+(r 1+(r 2+(r 3+r 4)))
theorem tQ{r:Nat->Nat}{j:Nat}(ax:j<5)(x:Nat):e2 (bT r j x)+r j=e2 r+x:=by
 match j,ax with
 |0,_=>simp[e2,bT];omega
 |1,_=>simp[e2,bT];omega
 |2,_=>simp[e2,bT];omega
 |3,_=>simp[e2,bT];omega
 |4,_=>simp[e2,bT];omega
theorem aH0{r:Nat->Nat}{j:Nat}(ax:j<5):r j<=e2 r:=by
 match j,ax with
 |0,_=>simp only[e2];omega
 |1,_=>simp only[e2];omega
 |2,_=>simp only[e2];omega
 |3,_=>simp only[e2];omega
 |4,_=>simp only[e2];omega
theorem xo{β:Type}(f:Nat->β)(j:Nat)(x y:β):bT (bT f j x) j y=bT f j y:=by
 funext i;by_cases h:i=j
 .subst h;simp[bT]
 .simp[bT,h]
theorem wi{β:Type}(f:Int->β)(j:Int):ez f j (f j)=f:=by
 funext i;by_cases h:i=j
 .subst h;simp[ez]
 .simp[ez,h]
abbrev Iw(κ:fw):=Nat->w7 κ.V κ.R κ.L
structure kj(κ:fw) where
 Z:Type
 D:Nat
 fo:List Int->aE->Z->Iw κ->(Nat->List Int)->List Int->Int->Int->(Nat->Nat)->Prop
 W:Z->w7 κ.V κ.R κ.L->Prop
 e8:1<=κ.e8/\κ.e8<1000
 ix:∀{a8 a z s vs aX aS N r},fo a8 a z s vs aX aS N r->∀j,j<5->r j<=D
 zero:∀{a8 a z s vs aX aS N r},fo a8 a z s vs aX aS N r->∀j,j<5->s j= .none->r j=0
 i':∀{a8 a z s vs aX aS N r},fo a8 a z s vs aX aS N r->a.an=κ.an/\a.ar=κ.ar
 ins:∀{a8 a z s vs aX aS N r},fo a8 a z s vs aX aS N r->a.inside=a8/\a.hq=5
 H':∀{a:aE} {v:κ.V} {Q Q':aE->κ.V->Prop},κ.Ad a v Q->(∀a' v',Q a' v'->Q' a' v')->κ.Ad a v Q'
 BV:∀{a:aE} {v:κ.R} {Q Q':aE->κ.R->Prop},κ.wJ a v Q->(∀a' v',Q a' v'->Q' a' v')->κ.wJ a v Q'
 LH:∀{a:aE} {v:κ.L} {Q Q':aE->κ.L->Prop},κ.pA a v Q->(∀a' v',Q a' v'->Q' a' v')->κ.pA a v Q'
 az:∀{a8 a z s vs aX aS N r},fo a8 a z s vs aX aS N r->h5 a
 yk:∀{z:Z},¬W z .none/\(∀k,¬W z (.b_ k (κ.tU k)))/\(∀k v i c,¬W z (.stay k v i c))/\(∀k r i c,¬W z (.take k r i c))/\(∀k r,¬W z (.leave k r))
 prog:∀{a8 a z s vs aX aS N r},fo a8 a z s vs aX aS N r->(∃j,j<5/\W z (s j))->∃j,j<5/\s j≠ .none/\¬W z (s j)
 tok:∀{a8 a z s vs aX aS N r},fo a8 a z s vs aX aS N r->(∀v,v∈aX->1<=v/\v<=aS)/\aX.Nodup/\(∀j,j<5->(vs j).length<=2000)/\aX.length<=2000/\0<=aS/\aS<=2000
 enter:∀{a8 a z s vs aX aS N r} {x:Int},fo a8 a z s vs aX aS N r->x∉a8->fo (a8++[x]) (a.enter x) z s vs aX aS N r
 out:∀{a8 a z s vs aX aS N r} (x:Int) (bC:V),fo a8 a z s vs aX aS N r->fo (a8.erase x) ((a.out x).cX bC) z s vs aX aS N r
 tell:∀{a8 a z s vs aX aS N r} {j:Nat},fo a8 a z s vs aX aS N r->j<5->s j= .none->fo a8 a z s (bT vs j []) (aX++vs j) aS (N+1) r
 Ac:∀{a8 a z s vs aX aS N r} {j:Nat} {k:Int},fo a8 a z s vs aX aS N r->j<5->s j= .none->0<=k/\k<κ.e8->∃hl,hl<=D/\fo a8 a z (bT s j (.b_ k (κ.tU k))) vs aX aS (N+1) (bT r j hl)
 zE:∀{a8 a z s vs aX aS N r} {j:Nat} {key:Int} {l:κ.L},fo a8 a z s vs aX aS N r->3<=j/\j<5->s j= .none->aS<2000->dZ key->κ.zF key (aS+1) l->∃hl,hl<=D/\fo a8 a z (bT s j (.lay l)) vs aX (aS+1) (N+1) (bT r j hl)
 NH:∀{a8 a z s vs aX aS N r} {j:Nat} {k:Int} {v:κ.V},fo a8 a z s vs aX aS N r->j<5->N<1000000000->s j= .b_ k v->κ.Ad a v (fun a' v'=>
  (κ.qt v'=false/\κ.r5 v'=false/\∃z' r',fo a8 a' z' (bT s j (.b_ k v')) vs aX aS (N+1) r'/\(W z (s j)->z'=z/\W z (.b_ k v')/\r'=r)/\(¬W z (s j)->e2 r'<e2 r))\/
  (κ.qt v'=true/\κ.r5 v'=true/\(κ.iP v').length<=64/\¬W z (s j)/\∃z' r',fo a8 a' z' (bT s j (.stay k v' 0 (κ.iP v').length)) vs aX aS (N+1) r'/\e2 r'<e2 r))
 NC:∀{a8 a z s vs aX aS N r} {j:Nat} {k:Int} {v:κ.V} {i c:Nat},fo a8 a z s vs aX aS N r->j<5->s j= .stay k v i c->0<c->κ.tok v i/\κ.j7 (κ.nO v i)=false/\(κ.q8 (κ.nO v i)).isSome=true/\∃r',fo a8 a z (bT s j (.take k (κ.nO v i) i c)) vs aX aS N r'/\e2 r'<=e2 r
 M8:∀{a8 a z s vs aX aS N r} {j:Nat} {k:Int} {R:κ.R} {i c:Nat},fo a8 a z s vs aX aS N r->j<5->N<1000000000->s j= .take k R i c->κ.wJ a R (fun a' gT=>
  (κ.q8 gT).isSome=true/\(κ.oL gT=true->κ.j7 gT=false)/\(
  (κ.j7 gT=false/\∃z' r',fo a8 a' z' (bT s j (.take k gT i c)) (bT vs j (if κ.oL gT then vs j++[κ.x' gT]else vs j)) aX aS (N+1) r'/\e2 r'<e2 r)\/
  (κ.j7 gT=true/\0<c/\∃v' z' r',κ.q8 gT=some v'/\fo a8 a' z' (bT s j (.stay k v' (i+1) (c-1))) vs aX aS (N+1) r'/\e2 r'<e2 r)))
 LO:∀{a8 a z s vs aX aS N r} {j:Nat} {k:Int} {v:κ.V} {i c:Nat},fo a8 a z s vs aX aS N r->j<5->s j= .stay k v i c->κ.zH v/\κ.j7 (κ.pH v)=false/\∃r',fo a8 a z (bT s j (.leave k (κ.pH v))) vs aX aS N r'/\e2 r'<=e2 r
 LR:∀{a8 a z s vs aX aS N r} {j:Nat} {k:Int} {R:κ.R},fo a8 a z s vs aX aS N r->j<5->N<1000000000->s j= .leave k R->κ.wJ a R (fun a' gT=>κ.j7 gT=true/\∃z' r',fo a8 a' z' (bT s j .none) vs aX aS (N+1) r'/\e2 r'<e2 r)
 LP:∀{a8 a z s vs aX aS N r} {j:Nat} {l:κ.L},fo a8 a z s vs aX aS N r->j<5->N<1000000000->s j= .lay l->κ.sF l=false/\κ.pA a l (fun a' l'=>
  (κ.sF l'=false/\∃z' r',fo a8 a' z' (bT s j (.lay l')) vs aX aS (N+1) r'/\(W z (s j)->z'=z/\W z (.lay l')/\r'=r)/\(¬W z (s j)->e2 r'<e2 r))\/
  (κ.sF l'=true/\¬W z (s j)/\∃z' r',fo a8 a' z' (bT s j .none) vs aX aS (N+1) r'/\e2 r'<e2 r))
