/- Part of the proof of BatchOnce, for every input. -/
import Derived.Test.YtobokeclhlbnmaaGreatB12
set_option linter.all false
namespace Go.Proofs.Run
open Go Go.Abs
attribute [local irreducible] b9 cI cr cg aR
set_option maxRecDepth 100000
set_option maxHeartbeats 4000000
section
variable{κ:fw}{x:hE κ}{kind:Int}{g:G}{n:Nat}{a:aE}{K:cj aE}{fl:List Nat}{aO:Nat}{b:bS κ}
theorem Tn{g:G}{b8:Nat}{fk:TypeId}{y:V}{f:FuncId}{zM:String}(ayv:nj oi 44 zM=some .vz)(hm:g b8=some (.al false [.iface fk y]))(aA:nj oi fk zM=some (.fn f)):tE bA.m g 44 (.ptr b8 0) zM=some (f,y):=by
 simp only[tE,ayv,ni,hm,List.getElem?_cons_zero,if_true,Bool.false_eq_true,if_false,aA]
theorem Te:nj oi 44 "Step" =some .vz:=by kernel_rfl
theorem aLq:nj oi 44 "Result" =some .vz:=by kernel_rfl
theorem PJ{r:κ.R}{Q:aE->bS κ->Prop}(cC:ey κ.dv g)(a3:a.an=κ.an/\a.ar=κ.ar)(ap:bm g n)(bf:∀y∈fl,y<n)(cy:∀q∈κ.dv,q.1∉fl)(h:nz x kind g fl aO b)(eO:b.hG= .leaving r)(ha:0<=b.room/\b.room<100000)(av:xe a b r Q)
 (ah:∀a' b',Q a' b'->uc x kind g n fl aO K b' a'):aR ct bA 253 [.ptr aO 0] g n a K:=by
 obtain⟨f,fz,dw,fA,cU,⟨aI,ak,hZ,dr,nS,sub,mj,rfl,de⟩⟩:=h
 rw[eO]at sub
 obtain⟨jh,bz,b8,v9,lZ,hB⟩:=sub
 have cV:=ap _ _ ak
 obtain⟨bq,aT,cq,ik,dD,kh,nl⟩:=de
 have kq:∀y∈fz,y<n:=fun y ai=>bf y (by simp[ai])
 have g9:∀y∈dw,y<n:=fun y ai=>bf y (by simp[ai])
 have k4:∀y∈fA,y<n:=fun y ai=>bf y (by simp[ai])
 have m7:∀y∈cU,y<n:=fun y ai=>bf y (by simp[ai])
 have td:∀q∈κ.dv,q.1∉cU:=fun q av hm=>cy q av (by simp[hm])
 have qO:∀q∈κ.dv,q.1≠aO:=fun q av e=>cy q av (by simp[e])
 obtain⟨fk,y,axA,hm,aA,gW⟩:=κ.HO (K:=fun v bY bq cR=>∃r' er,((cR.an=κ.an/\cR.ar=κ.ar)/\Q cR (b.cF r'))/\Fr g bY n bq cU er/\κ.oM bY er bz b8 r'/\v= .bN [.bool (κ.oL r'),.bool (κ.j7 r')]) cC a3 ap m7 lZ hB av (fun a' r' h=>h.1) fun a' r' g' n' fl' J U aq=>⟨r',fl',J,U,aq,rfl⟩
 have A':=Tn Te hm aA
 refine p0 ?_
 refine bE i253 fun N aF=>?_
 refine aL Fz (cc ak v9 A' @h2) ?_
 refine aR.mono gW fun v bY nk cR g4 kr=>?_
 obtain⟨r',er,⟨Kb,bO⟩,cL,dL,rfl⟩:=kr
 intro dE
 have l0:=ah cR _ bO
 have aD:=cL.az
 have zi:bY aO=some (.al false f.l):=by rw[cL.aw aO cV ik];exact ak
 have u9:=hZ.b6 (g':=bY) fun y ai=>cL.aw y (kq y ai) (dD y ai).2.2
 have u_:=dr.b6 (g':=bY) fun y ai=>cL.aw y (g9 y ai) (kh y ai).2
 have u':=nS.b6 (g':=bY) fun y ai=>cL.aw y (k4 y ai) (nl y ai)
 have jL:=cC.eI ap td cL
 have dy:∀y,y<n->y∉cU->y∉er:=fun y J U hm=>by
  rcases cL.sub y hm with h|h
  .exact U h
  .omega
 have qI:∀(F:a2) (gv:G) (jl:Nat) (mc:List Nat),nk<=jl->(∀y∈mc,y∈er)->yp x kind (b.cF r') F->yq gv mc aO F (b.cF r').hG->F.mA=f.mA->F.mB=f.mB->F.keys=f.keys->gv aO=some (.al false F.l)->(∀y,y≠aO->gv y=bY y)->K (.bN []) gv jl cR:=by
  intro F gv jl mc iJ uF lR qc kr eJ pw mN du
  have v8:∀y,y<n->y∉cU->y∉mc:=fun y J U hm=>dy y J U (uF y hm)
  refine l0 gv jl (aO::(fz++(dw++(fA++mc)))) ⟨I,fun y ai=>?_,fun y ai=>?_,fun y ai ij=>?_⟩ ⟨F,fz,dw,fA,mc,lR,mN,?_,?_,?_,qc,mj,rfl,bq,aT,cq,v8 _ cV ik,fun y ai=>⟨(dD y ai).1,(dD y ai).2.1,v8 y (kq y ai) (dD y ai).2.2⟩,fun y ai=>⟨(kh y ai).1,v8 y (g9 y ai) (kh y ai).2⟩,fun y ai=>v8 y (k4 y ai) (nl y ai)⟩
  .simp only[List.mem_cons,List.mem_append]at ai
   rcases ai with rfl|ai|ai|ai|ai
   .omega
   .have:=kq y ai;omega
   .have:=g9 y ai;omega
   .have:=k4 y ai;omega
   .have:=cL.lt y (uF y ai);omega
  .simp only[List.mem_cons,List.mem_append]at ai |-
   rcases ai with rfl|ai|ai|ai|ai
   .exact .inl (.inl rfl)
   .exact .inl (.inr (.inl ai))
   .exact .inl (.inr (.inr (.inl ai)))
   .exact .inl (.inr (.inr (.inr (.inl ai))))
   .rcases cL.sub y (uF y ai)with h|h
    .exact .inl (.inr (.inr (.inr (.inr h))))
    .exact .inr h
  .simp only[List.mem_cons,List.mem_append,not_or]at ij
   rw[du y ij.1];exact cL.aw y ai ij.2.2.2.2
  .rw[kr];exact u9.b6 fun y ai=>du y fun e=>bq (e▸ai)
  .rw[eJ];exact u_.b6 fun y ai=>du y fun e=>aT (e▸ai)
  .rw[pw];exact u'.b6 fun y ai=>du y fun e=>cq (e▸ai)
 have k5:aO∉er:=dy aO cV ik
 cases aH:κ.j7 r' with
 |false=>
  refine aL (aN HG.eq_1 Fz) aH ?_
  apply aF
  refine a6 i253.eq_1 ?_
  intro _
  refine .all fun _=>qI f bY nk er (Nat.le_refl _) (fun y ai=>ai) ⟨aI.x,aI.d0,aI.fg,aI.ic,aI.cS,aI.lu,aI.lv,aI.lx,aI.ly,aI.lz,aI.kD,aI.ln,aI.lo,aI.lp,aI.lq,aI.lr,aI.ls,aI.jW,aI.kb,by simp only[bS.cF,aH,Bool.false_eq_true,false_and,if_false];exact aI.room,aI.i,aI.effect,aI.mem,by simp only[bS.cF,aH,Bool.false_eq_true,false_and,if_false];exact aI.done,aI.over⟩ ?_ rfl rfl rfl zi fun _ _=>rfl
  simp only[bS.cF,aH,Bool.false_eq_true,if_false]
  exact⟨jh,bz,b8,v9,dL,aH⟩
 |true=>
  cases au:b.over with
  |true=>
   have nI:f.over= .bool true:=by rw[aI.over,au]
   refine aL (aN HG.eq_1 Fz) (cc aH zi nI @h2) ?_
   apply aF
   refine a6 i253.eq_1 ?_
   intro _
   refine .all fun _=>qI {f with done:=.bool true,over:=.bool true} _ nk [] (Nat.le_refl _) (fun y ai=>by simp at ai) ⟨aI.x,aI.d0,aI.fg,aI.ic,aI.cS,aI.lu,aI.lv,aI.lx,aI.ly,aI.lz,aI.kD,aI.ln,aI.lo,aI.lp,aI.lq,aI.lr,aI.ls,aI.jW,aI.kb,by simp only[bS.cF,aH,au,Bool.true_eq_false,and_false,if_false];exact aI.room,aI.i,aI.effect,aI.mem,by simp only[bS.cF,aH,au,and_self,if_true],by show V.bool true=V.bool b.over;rw[au]⟩ ?_ rfl rfl rfl (bc (aN nI @h2)) fun y ai=>?_
   .simp only[bS.cF,aH,au,if_true,yq]
   .have c4:(aO=y)=False:=eq_false fun e=>ai e.symm
    exact bc c4
  |false=>
   have nI:f.over= .bool false:=by rw[aI.over,au]
   have dA:IntKind.wrap .i64 (b.room+1)=b.room+1:=wrap_i64 I I
   refine aL (aN HG.eq_1 Fz) (d' aH zi nI aI.room dA @h2) ?_
   apply aF
   refine a6 i253.eq_1 ?_
   intro _
   refine .all fun _=>qI {f with room:=.int .i64 (b.room+1),over:=.bool false,next:=.fn (.func 53) [.ptr aO 0] []} _ nk [] (Nat.le_refl _) (fun y ai=>by simp at ai) ⟨aI.x,aI.d0,aI.fg,aI.ic,aI.cS,aI.lu,aI.lv,aI.lx,aI.ly,aI.lz,aI.kD,aI.ln,aI.lo,aI.lp,aI.lq,aI.lr,aI.ls,aI.jW,aI.kb,by simp only[bS.cF,aH,au,and_self,if_true],aI.i,aI.effect,aI.mem,by simp only[bS.cF,aH,au,Bool.false_eq_true,and_false,if_false];exact aI.done,by show V.bool false=V.bool b.over;rw[au]⟩ ?_ rfl rfl rfl (bc (aN nI @h2)) fun y ai=>?_
   .simp only[bS.cF,aH,au,if_true,Bool.false_eq_true,if_false,yq];exact⟨trivial,trivial⟩
   .have c4:(aO=y)=False:=eq_false fun e=>ai e.symm
    exact bc c4
end
section
variable{κ:fw}{x:hE κ}{kind:Int}{g:G}{n:Nat}{a:aE}{K:cj aE}{fl:List Nat}{aO:Nat}{b:bS κ}
theorem PL{r:κ.R}{Q:aE->bS κ->Prop}(cC:ey κ.dv g)(a3:a.an=κ.an/\a.ar=κ.ar)(ap:bm g n)(bf:∀y∈fl,y<n)(cy:∀q∈κ.dv,q.1∉fl)(h:nz x kind g fl aO b)(eO:b.hG= .sT r)(nD:b.e3.length<100000)(av:xf a b r Q)
 (ah:∀a' b',Q a' b'->uc x kind g n fl aO K b' a'):aR ct bA 255 [.ptr aO 0] g n a K:=by
 obtain⟨Gp,e0,av⟩:=av
 obtain⟨f,fz,dw,fA,cU,⟨aI,ak,hZ,dr,nS,sub,mj,rfl,de⟩⟩:=h
 rw[eO]at sub
 obtain⟨jh,bz,b8,ng,v9,lZ,Bd,hB⟩:=sub
 have cV:=ap _ _ ak
 obtain⟨bq,aT,cq,ik,dD,kh,nl⟩:=de
 have kq:∀y∈fz,y<n:=fun y ai=>bf y (by simp[ai])
 have g9:∀y∈dw,y<n:=fun y ai=>bf y (by simp[ai])
 have k4:∀y∈fA,y<n:=fun y ai=>bf y (by simp[ai])
 have m7:∀y∈cU,y<n:=fun y ai=>bf y (by simp[ai])
 have td:∀q∈κ.dv,q.1∉cU:=fun q av hm=>cy q av (by simp[hm])
 have qO:∀q∈κ.dv,q.1≠aO:=fun q av e=>cy q av (by simp[e])
 obtain⟨fk,y,axA,hm,aA,gW⟩:=κ.HO (K:=fun v bY bq cR=>∃r' er,(((κ.q8 r').isSome=true/\(κ.oL r'=true->κ.j7 r'=false))/\(cR.an=κ.an/\cR.ar=κ.ar)/\Q cR (b.b_ r'))/\Fr g bY n bq cU er/\κ.oM bY er bz b8 r'/\v= .bN [.bool (κ.oL r'),.bool (κ.j7 r')]) cC a3 ap m7 lZ hB av (fun a' r' h=>h.2.1) fun a' r' g' n' fl' J U aq=>⟨r',fl',J,U,aq,rfl⟩
 have A':=Tn Te hm aA
 refine p0 ?_
 refine bE i255 fun N aF=>?_
 refine aL Ay (cc ak v9 A' @h2) ?_
 refine aR.mono gW fun v bY nk cR g4 kr=>?_
 obtain⟨r',er,⟨⟨Gy,azG⟩,Kb,bO⟩,cL,dL,rfl⟩:=kr
 intro dE
 have l0:=ah cR _ bO
 have aD:=cL.az
 have zi:bY aO=some (.al false f.l):=by rw[cL.aw aO cV ik];exact ak
 have u9:=hZ.b6 (g':=bY) fun y ai=>cL.aw y (kq y ai) (dD y ai).2.2
 have u_:=dr.b6 (g':=bY) fun y ai=>cL.aw y (g9 y ai) (kh y ai).2
 have u':=nS.b6 (g':=bY) fun y ai=>cL.aw y (k4 y ai) (nl y ai)
 have jL:=cC.eI ap td cL
 have dy:∀y,y<n->y∉cU->y∉er:=fun y J U hm=>by
  rcases cL.sub y hm with h|h
  .exact U h
  .omega
 have qI:∀(F:a2) (gv:G) (jl:Nat) (mc:List Nat),nk<=jl->(∀y∈mc,y∈er)->κ.oL r'=false->yp x kind (b.b_ r') F->yq gv mc aO F (b.b_ r').hG->F.mA=f.mA->F.mB=f.mB->F.keys=f.keys->gv aO=some (.al false F.l)->(∀y,y≠aO->gv y=bY y)->K (.bN []) gv jl cR:=by
  intro F gv jl mc iJ uF Ku lR qc kr eJ pw mN du
  have v8:∀y,y<n->y∉cU->y∉mc:=fun y J U hm=>dy y J U (uF y hm)
  refine l0 gv jl (aO::(fz++(dw++(fA++mc)))) ⟨I,fun y ai=>?_,fun y ai=>?_,fun y ai ij=>?_⟩ ⟨F,fz,dw,fA,mc,lR,mN,?_,?_,?_,qc,by simp only[bS.b_,Ku,Bool.false_eq_true,if_false];exact mj,rfl,bq,aT,cq,v8 _ cV ik,fun y ai=>⟨(dD y ai).1,(dD y ai).2.1,v8 y (kq y ai) (dD y ai).2.2⟩,fun y ai=>⟨(kh y ai).1,v8 y (g9 y ai) (kh y ai).2⟩,fun y ai=>v8 y (k4 y ai) (nl y ai)⟩
  .simp only[List.mem_cons,List.mem_append]at ai
   rcases ai with rfl|ai|ai|ai|ai
   .omega
   .have:=kq y ai;omega
   .have:=g9 y ai;omega
   .have:=k4 y ai;omega
   .have:=cL.lt y (uF y ai);omega
  .simp only[List.mem_cons,List.mem_append]at ai |-
   rcases ai with rfl|ai|ai|ai|ai
   .exact .inl (.inl rfl)
   .exact .inl (.inr (.inl ai))
   .exact .inl (.inr (.inr (.inl ai)))
   .exact .inl (.inr (.inr (.inr (.inl ai))))
   .rcases cL.sub y (uF y ai)with h|h
    .exact .inl (.inr (.inr (.inr (.inr h))))
    .exact .inr h
  .simp only[List.mem_cons,List.mem_append,not_or]at ij
   rw[du y ij.1];exact cL.aw y ai ij.2.2.2.2
  .rw[kr];simp only[bS.b_,Ku,Bool.false_eq_true,if_false];exact u9.b6 fun y ai=>du y fun e=>bq (e▸ai)
  .rw[eJ];simp only[bS.b_,Ku,Bool.false_eq_true,if_false];exact u_.b6 fun y ai=>du y fun e=>aT (e▸ai)
  .rw[pw];exact u'.b6 fun y ai=>du y fun e=>cq (e▸ai)
 have k5:aO∉er:=dy aO cV ik
 cases he:κ.oL r' with
 |false=>
  cases aH:κ.j7 r' with
  |false=>
   refine aL (aN HH.eq_1 Ay) (aN he aH) ?_
   apply aF
   refine a6 i255.eq_1 ?_
   intro _
   refine .all fun _=>qI f bY nk er (Nat.le_refl _) (fun y ai=>ai) he ⟨aI.x,aI.d0,aI.fg,aI.ic,aI.cS,aI.lu,aI.lv,aI.lx,aI.ly,aI.lz,aI.kD,aI.ln,aI.lo,aI.lp,aI.lq,aI.lr,aI.ls,by simp only[bS.b_,he,Bool.false_eq_true,if_false];exact aI.jW,aI.kb,aI.room,by simp only[bS.b_,aH,Bool.false_eq_true,if_false];exact aI.i,by simp only[bS.b_,he,Bool.false_eq_true,if_false];exact aI.effect,aI.mem,aI.done,aI.over⟩ ?_ rfl rfl rfl zi fun _ _=>rfl
   simp only[bS.b_,aH,Bool.false_eq_true,if_false]
   exact⟨jh,bz,b8,ng,v9,dL,Gy,aH⟩
  |true=>
   have dA:IntKind.wrap .i64 ((b.i:Int)+1)=((b.i+1:Nat):Int):=by rw[wrap_i64 I I];omega
   refine aL (aN HH.eq_1 Ay) (d' he aH zi aI.i dA @h2) ?_
   apply aF
   refine a6 i255.eq_1 ?_
   intro _
   obtain⟨v',ga⟩:=Option.isSome_iff_exists.1 Gy
   obtain⟨mc,uF,kg,mP⟩:=κ.MZ dL aH ga
   refine .all fun _=>qI {f with i:=.int .i64 (b.i+1:Nat),next:=.fn (.func 187) [.ptr aO 0] []} _ nk mc (Nat.le_refl _) uF he ⟨aI.x,aI.d0,aI.fg,aI.ic,aI.cS,aI.lu,aI.lv,aI.lx,aI.ly,aI.lz,aI.kD,aI.ln,aI.lo,aI.lp,aI.lq,aI.lr,aI.ls,by simp only[bS.b_,he,Bool.false_eq_true,if_false];exact aI.jW,aI.kb,aI.room,by simp only[bS.b_,aH,if_true],by simp only[bS.b_,he,Bool.false_eq_true,if_false];exact aI.effect,aI.mem,aI.done,aI.over⟩ ?_ rfl rfl rfl (dX) fun y ai=>?_
   .simp only[bS.b_,aH,if_true,ga]
    refine⟨rfl,bz,ng,κ.tS kg jL.1 (fun q av=>?_) fun y ai=>?_,mP⟩
    .have c4:(aO=q.1)=False:=eq_false fun e=>qO q av e.symm
     have:=jL.1 q av
     exact bc (aN c4 this)
    .have c4:(aO=y)=False:=eq_false fun e=>k5 (e▸uF y ai)
     exact bc c4
   .have c4:(aO=y)=False:=eq_false fun e=>ai e.symm
    exact bc c4
 |true=>
  have aH:=azG he
  have vU:∀y,y≠aO->(a1 bY aO (.al false {f with effect:=.bool true}.l)) y=bY y:=fun y ai=>by rw[bJ,if_neg (fun e=>ai e.symm)]
  have p4:ey κ.dv (a1 bY aO (.al false {f with effect:=.bool true}.l)):=fun q av=>by rw[vU _ (qO q av)];exact jL.1 q av
  have fQ:=κ.u5 dL jL.1 p4 fun y ai=>vU y fun e=>k5 (e▸ai)
  obtain⟨asF,gj,axB,hF,dC,RH⟩:=κ.M3 (n:=nk) (a:=cR) (K:=fun v ba aT b7=>b7=cR/\∃b',nk<=b'/\v= .agg [.int .i64 0,.slice b' 0 1 1 1,.int .u64 0,.int .i64 0]/\ba b'=some (.al false [.int .u64 (κ.x' r')])/\∀y,y<nk->ba y=(a1 bY aO (.al false {f with effect:=.bool true}.l)) y) fQ he Gy fun ba aT b' lR J U=>⟨rfl,b',lR,rfl,J,U⟩
  have jA:b8≠aO:=fun e=>by rw[e,bJ,if_pos rfl]at hF;simp[a2.l]at hF
  have aAs:bY b8=some (.al false [.iface asF gj]):=by rw[<-vU b8 jA];exact hF
  have RZ:tE bA.m (a1 bY aO (.al false {f with effect:=.bool true}.l)) asF gj "Result" =some (axB,gj):=by simp only[tE,dC]
  have mh:({f with effect:=.bool true,now:=.iface 44 (.ptr b8 0)}:a2)={f with effect:=.bool true}:=by rw[<-v9]
  have zr:(a1 bY aO (.al false ({f with effect:=.bool true,now:=.iface 44 (.ptr b8 0)}:a2).l))=(a1 bY aO (.al false {f with effect:=.bool true}.l)):=by rw[mh]
  rw[<-zr]at RH RZ
  have aAu:(aO=b8)=False:=eq_false fun e=>jA e.symm
  refine aL (aN HH.eq_1 Ay) (e_ he aH zi v9 RZ aAs aAu @h2) ?_
  refine aR.mono RH fun v2 ba c9 b7 cB eJ=>?_
  obtain⟨rfl,b',aKH,rfl,eN,cQ⟩:=eJ
  intro za
  have K4:ba aO=some (.al false {f with effect:=.bool true}.l):=by rw[cQ aO I,zr];rw[bJ,if_pos rfl]
  have j1:∀y,y<nk->y≠aO->ba y=bY y:=fun y J U=>by rw[cQ y J,zr,vU y U]
  have Nk:=u9.b6 (g':=ba) fun y ai=>j1 y (by have:=kq y ai;omega) fun e=>bq (e▸ai)
  have H8:=u_.b6 (g':=ba) fun y ai=>j1 y (by have:=g9 y ai;omega) fun e=>aT (e▸ai)
  have aHJ:=u'.b6 (g':=ba) fun y ai=>j1 y (by have:=k4 y ai;omega) fun e=>cq (e▸ai)
  rcases aHJ with⟨_,hU,_⟩|⟨qe,qT,aKS,KN,Dt⟩
  .have:b.keys.length=0:=by rw[<-iS,hU];rfl
   omega
  have eF:(words b.keys)[b.i]? =some (.int .u64 (b.keys.getD b.i 0)):=by
   refine Ic ?_
   rw[List.getD_eq_getElem?_getD,List.getElem?_eq_getElem Gp];rfl
  have aLn:aO<c9:=I
  have aLj:=za _ _ Dt
  have xU:=za _ _ eN
  have az2:qe≠aO:=fun e=>cq (by rw[KN];simp[e])
  have ay9:b'≠aO:=fun e=>by rw[e,K4]at eN;simp[a2.l]at eN
  have i1:(0:Int)<=(b.i:Int):=I
  have i2:(b.i:Int)< ((words b.keys).length:Int):=by rw[iS];omega
  have dA:IntKind.wrap .i64 ((b.e3.length:Int)+1)=((b.e3.length+1:Nat):Int):=by rw[wrap_i64 I I];omega
  have PC:(aO=qe)=False:=eq_false fun e=>az2 e.symm
  have PF:(aO=b')=False:=eq_false fun e=>ay9 e.symm
  have aJ:nk<=c9:=cB
  have QS:∀(F:a2) (gv:G) (jl zB r4:Nat),c9<=zB->c9<=r4->zB≠r4->zB<jl->r4<jl->c9<=jl->yp x kind (b.b_ r') F->F.next= .fn (.func 255) [.ptr aO 0] []->F.visit= .ptr bz 0->F.now= .iface 44 (.ptr b8 0)->iG gv F.mA (words (b.e3++[b.keys.getD b.i 0])) [zB]->iG gv F.mB (words (b.gU++[κ.x' r'])) [r4]->F.keys=f.keys->gv aO=some (.al false F.l)->(∀y,y<c9->y≠aO->y∉fz->y∉dw->gv y=ba y)->K (.bN []) gv jl b7:=by
   intro F gv jl zB r4 KL aK9 bp aKT aK' qa lR nh Bj uK lH uJ g3 mN dJ
   have GA:∀y∈er,y<nk:=cL.lt
   have ayO:∀y∈er,gv y=(a1 bY aO (.al false {f with effect:=.bool true}.l)) y:=fun y ai=>by
    have J:=GA y ai
    have DN:y≠aO:=fun e=>k5 (e▸ai)
    have GM:y∉fz:=fun hm=>dy y (kq y hm) (dD y hm).2.2 ai
    have GN:y∉dw:=fun hm=>dy y (g9 y hm) (kh y hm).2 ai
    rw[dJ y I DN GM GN,cQ y J,zr]
   refine l0 gv jl (aO::([zB]++([r4]++(fA++er)))) ⟨I,fun y ai=>?_,fun y ai=>?_,fun y ai ij=>?_⟩ ⟨F,[zB],[r4],fA,er,lR,mN,?_,?_,?_,?_,?_,rfl,?_,?_,cq,k5,fun y ai=>?_,fun y ai=>?_,fun y ai=>dy y (k4 y ai) (nl y ai)⟩
   .simp only[List.mem_cons,List.mem_append,List.not_mem_nil,or_false]at ai
    rcases ai with rfl|rfl|rfl|ai|ai
    .omega
    .omega
    .omega
    .have:=k4 y ai;omega
    .have:=GA y ai;omega
   .simp only[List.mem_cons,List.mem_append,List.not_mem_nil,or_false]at ai |-
    rcases ai with rfl|rfl|rfl|ai|ai
    .exact .inl (.inl rfl)
    .exact .inr I
    .exact .inr I
    .exact .inl (.inr (.inr (.inr (.inl ai))))
    .rcases cL.sub y ai with h|h
     .exact .inl (.inr (.inr (.inr (.inr h))))
     .exact .inr h
   .simp only[List.mem_cons,List.mem_append,not_or]at ij
    rw[dJ y I ij.1 ij.2.1 ij.2.2.1,j1 y I ij.1];exact cL.aw y ai ij.2.2.2.2
   .simp only[bS.b_,he,if_true];exact lH
   .simp only[bS.b_,he,if_true];exact uJ
   .rw[g3];exact u'.b6 fun y ai=>by
     have J:=k4 y ai
     rw[dJ y I (fun e=>cq (e▸ai)) (fun hm=>(dD y hm).2.1 ai) (fun hm=>(kh y hm).1 ai),j1 y I fun e=>cq (e▸ai)]
   .simp only[bS.b_,aH,Bool.false_eq_true,if_false]
    refine⟨nh,bz,b8,Bj,uK,κ.u5 fQ p4 (fun q av=>?_) ayO,Gy,aH⟩
    have xO:=ap _ _ (cC q av)
    have Se:=qO q av
    have K3:=cy q av
    simp only[List.mem_cons,List.mem_append,not_or]at K3
    rw[dJ _ I Se K3.2.1 K3.2.2.1,j1 _ I Se];exact jL.1 q av
   .simp only[bS.b_,he,if_true,List.length_append,List.length_singleton];omega
   .simp only[List.mem_singleton];omega
   .simp only[List.mem_singleton];omega
   .simp only[List.mem_singleton]at ai |-
    subst ai
    exact⟨bp,fun hm=>by have:=k4 _ hm;omega,fun hm=>by have:=GA _ hm;omega⟩
   .simp only[List.mem_singleton]at ai
    subst ai
    exact⟨fun hm=>by have:=k4 _ hm;omega,fun hm=>by have:=GA _ hm;omega⟩
  rcases Nk with⟨nD,hU,rfl⟩|⟨c,nD,hU,rfl,vM⟩
  .have F8:b.e3=[]:=by cases bd:b.e3 with|nil=>rfl|cons y l=>rw[bd]at hU;simp[words]at hU
   have F9:b.gU=[]:=List.eq_nil_of_length_eq_zero (by rw[mj,F8];rfl)
   rcases H8 with⟨rE,sz,rfl⟩|⟨c',rE,sz,rfl,Kj⟩
   .refine fG (aN MD.eq_1 Ay) (bs K4 qT nD rE Dt eF eN i1 i2 aI.i aI.jW (bs dA aH fY.eq_1 PC PF @Int.toNat_natCast @h2 (ag (I:aO<c9)) (ag (I:qe<c9)) (ag (I:b'<c9)) (ag (I:c9<c9+1)) (cw (ag (I:aO<c9+1)) (ag (I:qe<c9+1)) (ag (I:b'<c9+1))))) ?_
    apply aF
    refine a6 i255.eq_1 ?_
    intro _
    refine .all fun _=>QS {f with mA:=.slice (c9+39) 0 1 1 1,mB:=.slice (c9+40) 0 1 1 1,jW:=.int .i64 (b.e3.length+1:Nat),keys:=.slice qe 0 (words b.keys).length (words b.keys).length 1,i:=.int .i64 b.i,effect:=.bool true} _ (c9+41) (c9+39) (c9+40) I I I ?_ ?_ I ⟨aI.x,aI.d0,aI.fg,aI.ic,aI.cS,aI.lu,aI.lv,aI.lx,aI.ly,aI.lz,aI.kD,aI.ln,aI.lo,aI.lp,aI.lq,aI.lr,aI.ls,by simp only[bS.b_,he,if_true,List.length_append,List.length_singleton],aI.kb,aI.room,by simp only[bS.b_,aH,Bool.false_eq_true,if_false],by simp only[bS.b_,he,if_true],aI.mem,aI.done,aI.over⟩ jh ng v9 (.inr ⟨c9+39,?_,by rw[iS];simp,rfl,?_⟩) (.inr ⟨c9+40,?_,by rw[iS];simp,rfl,?_⟩) qT.symm ?_ fun y ai DN GM GN=>?_
    .omega
    .omega
    .rw[F8];rfl
    .exact bc (d' F8 F9 words.eq_1 (ag (I:aO<c9)) (ag (I:qe<c9)) (ag (I:b'<c9)))
    .rw[F9];rfl
    .exact bc (d' F8 F9 words.eq_1 (ag (I:aO<c9)) (ag (I:qe<c9)) (ag (I:b'<c9)))
    .exact bc (ag (I:aO<c9))
    .have c4:(aO=y)=False:=eq_false fun e=>DN e.symm
     have Dj:True:=trivial
     have Kg:True:=trivial
     exact bc (eW c4 Dj Kg (ag (I:y<c9)) (ag (I:y<c9+1)))
   .rw[F9]at sz;simp[words]at sz
  .have uG:0<b.e3.length:=by rw[iS]at hU;exact hU
   rcases H8 with⟨rE,sz,rfl⟩|⟨c',rE,sz,rfl,Kj⟩
   .have:b.gU.length=0:=by rw[<-iS,sz];rfl
    omega
   .have sE:=za _ _ vM
    have aLf:=za _ _ Kj
    have c1:¬(words b.e3).length+1<=(words b.e3).length:=I
    have c2:(words b.e3).length+1<=1048576:=by rw[iS];omega
    have eu:List.take (words b.e3).length (words b.e3)=words b.e3:=List.take_length
    have Jd:¬(words b.gU).length+1<=(words b.gU).length:=I
    have avI:(words b.gU).length+1<=1048576:=by rw[iS,mj];omega
    have avK:List.take (words b.gU).length (words b.gU)=words b.gU:=List.take_length
    have AV:c≠aO:=fun e=>bq (by simp[e])
    have Rr:c'≠aO:=fun e=>aT (by simp[e])
    have Rk:c≠c':=fun e=>(dD c aM).1 (by simp[e])
    have Rn:c≠qe:=fun e=>(dD c aM).2.1 (by rw[KN];simp[e])
    have Ro:c'≠qe:=fun e=>(kh c' aM).1 (by rw[KN];simp[e])
    have pu:=kq c aM
    have aKJ:=g9 c' aM
    have fB:c≠b':=I
    have xw:c'≠b':=I
    refine fG (aN MD.eq_1 Ay) (bs K4 qT nD rE Dt vM Kj eF eN i1 i2 (bs aI.i aI.jW dA aH fY.eq_1 c1 c2 eu Jd avI avK (bs @Nat.le_refl PC PF (ma AV) (mb AV) (ma Rr) (mb Rr) (ma Rk) (mb Rk) (ma Rn) (mb Rn) (bs (ma Ro) (mb Ro) (ma fB) (ma xw) (mb fB) (mb xw) @Int.toNat_natCast @h2 (ag (I:aO<c9)) (ag (I:qe<c9)) (ag (I:b'<c9)) (e_ (ag (I:c<c9)) (ag (I:c'<c9)) (ag (I:c9<c9+1)) (ag (I:aO<c9+1)) (ag (I:qe<c9+1)) (ag (I:b'<c9+1)) (ag (I:c<c9+1)) (ag (I:c'<c9+1))))))) ?_
    apply aF
    refine a6 i255.eq_1 ?_
    intro _
    refine .all fun _=>QS {f with mA:=.slice (c9+39) 0 ((words b.e3).length+1) ((words b.e3).length+1) 1,mB:=.slice (c9+40) 0 ((words b.gU).length+1) ((words b.gU).length+1) 1,jW:=.int .i64 (b.e3.length+1:Nat),keys:=.slice qe 0 (words b.keys).length (words b.keys).length 1,i:=.int .i64 b.i,effect:=.bool true} _ (c9+41) (c9+39) (c9+40) I I I ?_ ?_ I ⟨aI.x,aI.d0,aI.fg,aI.ic,aI.cS,aI.lu,aI.lv,aI.lx,aI.ly,aI.lz,aI.kD,aI.ln,aI.lo,aI.lp,aI.lq,aI.lr,aI.ls,by simp only[bS.b_,he,if_true,List.length_append,List.length_singleton],aI.kb,aI.room,by simp only[bS.b_,aH,Bool.false_eq_true,if_false],by simp only[bS.b_,he,if_true],aI.mem,aI.done,aI.over⟩ jh ng v9 (.inr ⟨c9+39,?_,by rw[iS];simp,rfl,?_⟩) (.inr ⟨c9+40,?_,by rw[iS];simp,rfl,?_⟩) qT.symm ?_ fun y ai DN GM GN=>?_
    .omega
    .omega
    .simp[words]
    .exact bc (gq words.eq_1 @List.map_append.{0,0} (ag (I:aO<c9)) (ag (I:qe<c9)) (ag (I:b'<c9)) (ag (I:c<c9)) (ag (I:c'<c9)))
    .simp[words]
    .exact bc (gq words.eq_1 @List.map_append.{0,0} (ag (I:aO<c9)) (ag (I:qe<c9)) (ag (I:b'<c9)) (ag (I:c<c9)) (ag (I:c'<c9)))
    .exact bc (ag (I:aO<c9))
    .have c4:(aO=y)=False:=eq_false fun e=>DN e.symm
     have Dj:(c=y)=False:=eq_false fun e=>GM (by simp[e])
     have Kg:(c'=y)=False:=eq_false fun e=>GN (by simp[e])
     exact bc (eW c4 Dj Kg (ag (I:y<c9)) (ag (I:y<c9+1)))
end
section
variable{κ:fw}{x:hE κ}{kind:Int}{g:G}{n:Nat}{a:aE}{K:cj aE}{fl:List Nat}{aO:Nat}{b:bS κ}
theorem avt{v:κ.V}{Q:aE->bS κ->Prop}(cC:ey κ.dv g)(a3:a.an=κ.an/\a.ar=κ.ar)(ap:bm g n)(bf:∀y∈fl,y<n)(cy:∀q∈κ.dv,q.1∉fl)(h:nz x kind g fl aO b)(eO:b.hG= .within v)(nD:b.e3.length<100000)(ha:0<=b.room/\b.room<100000)
 (xO:(b.over=true\/b.i=b.keys.length)->κ.zH v/\κ.j7 (κ.pH v)=false/\xe a b (κ.pH v) Q) (sv:¬(b.over=true\/b.i=b.keys.length)->κ.tok v b.i/\κ.j7 (κ.nO v b.i)=false/\(κ.q8 (κ.nO v b.i)).isSome=true/\xf a b (κ.nO v b.i) Q)
 (ah:∀a' b',Q a' b'->uc x kind g n fl aO K b' a'):aR ct bA 187 [.ptr aO 0] g n a K:=by
 obtain⟨f,fz,dw,fA,cU,⟨aI,ak,hZ,dr,nS,sub,mj,rfl,de⟩⟩:=h
 rw[eO]at sub
 obtain⟨jh,bz,ng,kg,mP⟩:=sub
 have cV:=ap _ _ ak
 obtain⟨bq,aT,cq,ik,dD,kh,nl⟩:=de
 have kq:∀y∈fz,y<n:=fun y ai=>bf y (by simp[ai])
 have g9:∀y∈dw,y<n:=fun y ai=>bf y (by simp[ai])
 have k4:∀y∈fA,y<n:=fun y ai=>bf y (by simp[ai])
 have m7:∀y∈cU,y<n:=fun y ai=>bf y (by simp[ai])
 have td:∀q∈κ.dv,q.1∉cU:=fun q av hm=>cy q av (by simp[hm])
 have qO:∀q∈κ.dv,q.1≠aO:=fun q av e=>cy q av (by simp[e])
 have aKX:aO≠bz:=fun e=>ik (e▸κ.E4 kg)
 have aKW:=m7 bz (κ.E4 kg)
 refine p0 ?_
 refine bE i187 fun N aF=>?_
 have hlen:oI f.keys=some (.int .i64 (b.keys.length:Int)):=by
  rcases nS with⟨J,U,_⟩|⟨c,J,U,aq,aK⟩
  .rw[J,SR];have:=iS (l:=b.keys);rw[U]at this;simp at this;simp[<-this]
  .rw[J,lK,iS]
 have nd:V.same 40 f.keys f.keys=true:=by
  rcases nS with⟨J,U,_⟩|⟨c,J,U,aq,aK⟩<;>rw[J]<;>simp[oO,oN]
 have jL:=cC
 have qI:∀(hG:Io κ) (F:a2) (gv ba:G) (jl c9:Nat) (er:List Nat),Fr g ba n c9 cU er->c9<=jl->yp x kind {b with hG:=hG} F->yq gv er aO F hG->F.mA=f.mA->F.mB=f.mB->F.keys=f.keys->gv aO=some (.al false F.l)->(∀y,y≠aO->gv y=ba y)->Fr g gv n jl (aO::(fz++(dw++(fA++cU)))) (aO::(fz++(dw++(fA++er))))/\nz x kind gv (aO::(fz++(dw++(fA++er)))) aO {b with hG:=hG}:=by
  intro hG F gv ba jl c9 er cL iJ lR qc kr eJ pw mN du
  have aD:=cL.az
  have dy:∀y,y<n->y∉cU->y∉er:=fun y J U hm=>by
   rcases cL.sub y hm with h|h
   .exact U h
   .omega
  have u9:=hZ.b6 (g':=ba) fun y ai=>cL.aw y (kq y ai) (dD y ai).2.2
  have u_:=dr.b6 (g':=ba) fun y ai=>cL.aw y (g9 y ai) (kh y ai).2
  have u':=nS.b6 (g':=ba) fun y ai=>cL.aw y (k4 y ai) (nl y ai)
  refine⟨⟨I,fun y ai=>?_,fun y ai=>?_,fun y ai ij=>?_⟩,⟨F,fz,dw,fA,er,lR,mN,?_,?_,?_,qc,mj,rfl,bq,aT,cq,dy _ cV ik,fun y ai=>⟨(dD y ai).1,(dD y ai).2.1,dy y (kq y ai) (dD y ai).2.2⟩,fun y ai=>⟨(kh y ai).1,dy y (g9 y ai) (kh y ai).2⟩,fun y ai=>dy y (k4 y ai) (nl y ai)⟩⟩
  .simp only[List.mem_cons,List.mem_append]at ai
   rcases ai with rfl|ai|ai|ai|ai
   .omega
   .have:=kq y ai;omega
   .have:=g9 y ai;omega
   .have:=k4 y ai;omega
   .have:=cL.lt y ai;omega
  .simp only[List.mem_cons,List.mem_append]at ai |-
   rcases ai with rfl|ai|ai|ai|ai
   .exact .inl (.inl rfl)
   .exact .inl (.inr (.inl ai))
   .exact .inl (.inr (.inr (.inl ai)))
   .exact .inl (.inr (.inr (.inr (.inl ai))))
   .rcases cL.sub y ai with h|h
    .exact .inl (.inr (.inr (.inr (.inr h))))
    .exact .inr h
  .simp only[List.mem_cons,List.mem_append,not_or]at ij
   rw[du y ij.1];exact cL.aw y ai ij.2.2.2.2
  .rw[kr];exact u9.b6 fun y ai=>du y fun e=>bq (e▸ai)
  .rw[eJ];exact u_.b6 fun y ai=>du y fun e=>aT (e▸ai)
  .rw[pw];exact u'.b6 fun y ai=>du y fun e=>cq (e▸ai)
 have SQ:∀(ba:G) (c9:Nat) (er:List Nat) (b8:Nat) (F:a2),F={f with now:=.iface 44 (.ptr b8 0),next:=.fn (.func 253) [.ptr aO 0] []}->κ.zH v/\κ.j7 (κ.pH v)=false/\xe a b (κ.pH v) Q->Fr g ba n c9 cU er->κ.oM ba er bz b8 (κ.pH v)->∀gv,gv aO=some (.al false F.l)->(∀y,y≠aO->gv y=ba y)->bm gv c9->aR ct bA 253 [.ptr aO 0] gv c9 a fun v qK ik gx=>K (.bN []) qK ik gx:=by
  rintro ba c9 er b8 F rfl ⟨RU,hB,av⟩ cL lZ gv mN du rG
  have aD:=cL.az
  have k5:aO∉er:=fun hm=>by
   rcases cL.sub aO hm with h|h
   .exact ik h
   .omega
  have p4:ey κ.dv gv:=fun q av=>by rw[du _ (qO q av)];exact(cC.eI ap td cL).1 q av
  obtain⟨hg,DI⟩:=qI (.leaving (κ.pH v)) {f with now:=.iface 44 (.ptr b8 0),next:=.fn (.func 253) [.ptr aO 0] []} gv ba c9 c9 er cL (Nat.le_refl _) ⟨aI.x,aI.d0,aI.fg,aI.ic,aI.cS,aI.lu,aI.lv,aI.lx,aI.ly,aI.lz,aI.kD,aI.ln,aI.lo,aI.lp,aI.lq,aI.lr,aI.ls,aI.jW,aI.kb,aI.room,aI.i,aI.effect,aI.mem,aI.done,aI.over⟩ ⟨rfl,bz,b8,rfl,κ.u5 lZ (cC.eI ap td cL).1 p4 fun y ai=>du y fun e=>k5 (e▸ai),hB⟩ rfl rfl rfl mN du
  exact PJ (K:=fun _ g n a=>K (.bN []) g n a) (b:={b with hG:=.leaving (κ.pH v)}) p4 a3 rG hg.lt (cC.eI ap cy hg).2 DI rfl ha av fun a' b' av=>(ah a' b' av).trans hg
 have take:∀(ba:G) (c9:Nat) (er:List Nat) (b8:Nat) (F:a2),F={f with now:=.iface 44 (.ptr b8 0),next:=.fn (.func 255) [.ptr aO 0] []}->κ.tok v b.i/\κ.j7 (κ.nO v b.i)=false/\(κ.q8 (κ.nO v b.i)).isSome=true/\xf a b (κ.nO v b.i) Q->Fr g ba n c9 cU er->κ.oM ba er bz b8 (κ.nO v b.i)->∀gv,gv aO=some (.al false F.l)->(∀y,y≠aO->gv y=ba y)->bm gv c9->aR ct bA 255 [.ptr aO 0] gv c9 a fun v qK ik gx=>K (.bN []) qK ik gx:=by
  rintro ba c9 er b8 F rfl ⟨zo,hB,Bd,av⟩ cL lZ gv mN du rG
  have aD:=cL.az
  have k5:aO∉er:=fun hm=>by
   rcases cL.sub aO hm with h|h
   .exact ik h
   .omega
  have p4:ey κ.dv gv:=fun q av=>by rw[du _ (qO q av)];exact(cC.eI ap td cL).1 q av
  obtain⟨hg,DI⟩:=qI (.sT (κ.nO v b.i)) {f with now:=.iface 44 (.ptr b8 0),next:=.fn (.func 255) [.ptr aO 0] []} gv ba c9 c9 er cL (Nat.le_refl _) ⟨aI.x,aI.d0,aI.fg,aI.ic,aI.cS,aI.lu,aI.lv,aI.lx,aI.ly,aI.lz,aI.kD,aI.ln,aI.lo,aI.lp,aI.lq,aI.lr,aI.ls,aI.jW,aI.kb,aI.room,aI.i,aI.effect,aI.mem,aI.done,aI.over⟩ ⟨rfl,bz,b8,ng,rfl,κ.u5 lZ (cC.eI ap td cL).1 p4 fun y ai=>du y fun e=>k5 (e▸ai),Bd,hB⟩ rfl rfl rfl mN du
  exact PL (K:=fun _ g n a=>K (.bN []) g n a) (b:={b with hG:=.sT (κ.nO v b.i)}) p4 a3 rG hg.lt (cC.eI ap cy hg).2 DI rfl nD av fun a' b' av=>(ah a' b' av).trans hg
 by_cases af:b.over=true\/b.i=b.keys.length
 .obtain⟨RU,hB,av⟩:=xO af
  have go:∀m,n<=m->aR ct bA 252 [.ptr bz 0] g m a fun v2 ba c9 b7=>∃er b8,v2= .ptr b8 0/\b7=a/\Fr g ba n c9 cU er/\κ.oM ba er bz b8 (κ.pH v):=fun m hm=>κ.DT cC a3 (ap.mono hm) (fun y ai=>by have:=m7 y ai;omega) kg mP RU fun ba c9 er b8 cL lZ=>⟨er,b8,rfl,rfl,⟨by have:=cL.az;omega,cL.lt,fun y ai=>(cL.sub y ai).imp id fun h=>I,fun y ai=>cL.aw y I⟩,lZ⟩
  rcases Bool.eq_false_or_eq_true b.over with au|au
  .have nI:f.over= .bool true:=by rw[aI.over,au]
   refine aL Av (cc ak nI ng @h2) ?_
   refine aR.mono (go _ I) fun v2 ba c9 b7 cB eJ=>?_
   obtain⟨er,b8,rfl,rfl,cL,lZ⟩:=eJ
   intro dC
   have fQ:ba aO=some (.al false f.l):=by rw[cL.aw aO cV ik];exact ak
   have aD:=cL.az
   refine aL (aN Mx.eq_1 Av) (aN fQ @h2) ?_
   refine dO fun gB=>aR.mono (SQ ba c9 er b8 _ rfl (xO af) cL lZ _ (dX) (fun y ai=>?_) gB) fun v4 qK D8 gx v0 kt=>?_
   .have c4:(aO=y)=False:=eq_false fun e=>ai e.symm
    exact bc c4
   intro jN
   apply aF
   refine a6 i187.eq_1 ?_
   exact fun _=>.all fun _=>kt
  .have nI:f.over= .bool false:=by rw[aI.over,au]
   have y':(b.i:Int)=(b.keys.length:Int):=by rcases af with h|h<;>simp_all
   refine aL Av (e_ ak nI ng aI.i hlen nd y' @h2) ?_
   refine aR.mono (go _ I) fun v2 ba c9 b7 cB eJ=>?_
   obtain⟨er,b8,rfl,rfl,cL,lZ⟩:=eJ
   intro dC
   have fQ:ba aO=some (.al false f.l):=by rw[cL.aw aO cV ik];exact ak
   have aD:=cL.az
   refine aL (aN Mx.eq_1 Av) (aN fQ @h2) ?_
   refine dO fun gB=>aR.mono (SQ ba c9 er b8 _ rfl (xO af) cL lZ _ (dX) (fun y ai=>?_) gB) fun v4 qK D8 gx v0 kt=>?_
   .have c4:(aO=y)=False:=eq_false fun e=>ai e.symm
    exact bc c4
   intro jN
   apply aF
   refine a6 i187.eq_1 ?_
   exact fun _=>.all fun _=>kt
 .have au:b.over=false:=by cases h:b.over<;>simp_all
  have nI:f.over= .bool false:=by rw[aI.over,au]
  have y':((b.i:Int)=(b.keys.length:Int))=False:=eq_false fun e=>af (.inr I)
  obtain⟨zo,hB,Bd,av⟩:=sv af
  have go:∀m,n<=m->aR ct bA 254 [.ptr bz 0,.int .i64 b.i] g m a fun v2 ba c9 b7=>∃er b8,v2= .ptr b8 0/\b7=a/\Fr g ba n c9 cU er/\κ.oM ba er bz b8 (κ.nO v b.i):=fun m hm=>κ.BY cC a3 (ap.mono hm) (fun y ai=>by have:=m7 y ai;omega) kg mP zo fun ba c9 er b8 cL lZ=>⟨er,b8,rfl,rfl,⟨by have:=cL.az;omega,cL.lt,fun y ai=>(cL.sub y ai).imp id fun h=>I,fun y ai=>cL.aw y I⟩,lZ⟩
  refine aL Av (jO ak nI ng aI.i aI.fg hlen nd y' @h2) ?_
  refine aR.mono (go _ I) fun v2 ba c9 b7 cB eJ=>?_
  obtain⟨er,b8,rfl,rfl,cL,lZ⟩:=eJ
  intro dC
  have fQ:ba aO=some (.al false f.l):=by rw[cL.aw aO cV ik];exact ak
  have aD:=cL.az
  refine aL (aN adI.eq_1 Av) (aN fQ @h2) ?_
  refine dO fun gB=>aR.mono (take ba c9 er b8 _ rfl ⟨zo,hB,Bd,av⟩ cL lZ _ (dX) (fun y ai=>?_) gB) fun v4 qK D8 gx v0 kt=>?_
  .have c4:(aO=y)=False:=eq_false fun e=>ai e.symm
   exact bc c4
  intro jN
  apply aF
  refine a6 i187.eq_1 ?_
  exact fun _=>.all fun _=>kt
end
section
variable{g:G}{n:Nat}{a:aE}{K:cj aE}
def Ir(g:G)(dr:V)(xs:List Int):Prop:=∃c cap ro vs,dr= .slice c 0 xs.length cap 1/\g c=some (.al ro vs)/\∀j,j<xs.length->vs[j]? =some (.int .i64 (xs.getD j 0))
theorem aBD{dr:V}{xs:List Int}{w:Int}(aa:Ir g dr xs)(hlen:xs.length<1000)(ah:∀n' i,n<=n'->(0<=i↔w∈xs)->K (.int .i64 i) g n' a):aR ct bA 127 [dr,.int .i64 w] g n a K:=by
 obtain⟨c,cap,ro,vs,rfl,af,aj⟩:=aa
 refine bE i127 fun N aF=>?_
 have tl:oI (V.slice c 0 xs.length cap 1)=some (.int .i64 xs.length):=lK _ _ _ _ _
 refine aL Cj tl ?_
 refine qp (fun k t g' n' a'=>∃i,k=xs.length-i/\i<=xs.length/\n<=n'/\g'=g/\a'=a/\(∀j,j<i->xs.getD j 0≠w)/\aW t (.t 0)= .slice c 0 xs.length cap 1/\aW t (.t 1)= .int .i64 w/\aW t (.t 7)= .int .i64 xs.length/\aW t (.t 8)= .int .i64 i) xs.length ⟨0,I,I,I,rfl,rfl,I,dW,dW,dW,bD @Int.natCast_zero⟩ ?_
 rintro k t g' n' a' ⟨i,rfl,aC,az,rfl,rfl,bp,cZ,aD,dB,dN⟩
 by_cases ap:i<xs.length
 .have hr:(i:Int)< (xs.length:Int):=I
  have y9:(0:Int)<=(i:Int):=I
  have dA:IntKind.wrap .i64 ((i:Int)+1)=((i+1:Nat):Int):=by rw[wrap_i64 I I];omega
  have St:=aj i ap
  by_cases GL:w=xs.getD i 0
  .have Lk:(w=xs.getD i 0)=True:=eq_true GL
   refine aL Cj (ji cZ aD dB dN af hr y9 St Lk @Int.toNat_natCast) ?_
   apply aF
   refine a6 i127.eq_1 ?_
   refine fun _=>.all (ah _ _ I ⟨fun _=>?_,fun _=>y9⟩)
   rw[GL,List.getD_eq_getElem?_getD,List.getElem?_eq_getElem ap];simp
  .have Lk:(w=xs.getD i 0)=False:=eq_false GL
   refine aL Cj (kw cZ aD dB dN af hr y9 St Lk @Int.toNat_natCast dA) ?_
   refine⟨xs.length- (i+1),I,i+1,rfl,I,I,fun j ax=>?_,rfl⟩
   rcases Nat.lt_or_ge j i with h|h
   .exact bp j h
   .have:j=i:=I
    subst this;exact fun e=>GL e.symm
 .have p8:i=xs.length:=I
  subst p8
  refine aL Cj (eW cZ aD dB dN @Int.lt_irrefl) ?_
  refine aL Cj cZ ?_
  apply aF
  refine a6 i127.eq_1 ?_
  refine fun _=>.all (ah _ _ I ⟨fun h=>I,fun h=>?_⟩)
  obtain⟨j,ax,vX⟩:=List.getElem_of_mem h
  exact absurd (by rw[List.getD_eq_getElem?_getD,List.getElem?_eq_getElem ax];simpa using vX) (bp j ax)
theorem KX{dr:V}{xs:List Int}{w:Int}(aa:Ir g dr xs)(hlen:xs.length<1000)(ah:∀n',n<=n'->K (.bool (decide (w∈xs))) g n' a):aR ct bA 55 [dr,.int .i64 w] g n a K:=by
 refine bE i55 fun N aF=>?_
 refine dl Pb ?_
 refine aBD aa hlen fun n' i az aC=>?_
 intro aA
 have aH:decide ((0:Int)<=i)=decide (w∈xs):=by simp[aC]
 refine aL (aN aes.eq_1 Pb) aH ?_
 apply aF
 refine a6 i55.eq_1 ?_
 exact fun _=>.all (ah _ az)
end
section
variable{κ:fw}{x:hE κ}{kind:Int}{g:G}{n:Nat}{a:aE}{K:cj aE}{fl:List Nat}{aO:Nat}{b:bS κ}
theorem aI9(dQ:kind=4\/kind=5)(ah:∀g' n',n<=n'->(∀y,y<n->g' y=g y)->K (.bool true) g' n' a):aR ct bA 49 [.int .i64 kind,.int .i64 4] g n a K:=by
 refine bE i49 fun N aF=>?_
 refine aL Pa (ji kF.eq_1 kF.eq_2 nR.eq_1 nR.eq_2 kG.eq_1 kG.eq_2 l1.eq_1 l1.eq_2 @Option.isSome_some.{0} @Option.some.injEq.{0}) ?_
 refine KX (xs:=[4,5]) ⟨n+3,2,false,[.int .i64 4,.int .i64 5],rfl,dX,fun j ax=>?_⟩ aM fun n' az=>?_
 .match j,ax with
  |0,_=>rfl
  |1,_=>rfl
 intro aA
 have aH:decide (kind∈[(4:Int),5])=true:=by rcases dQ with rfl|rfl<;>rfl
 refine aL (aN aeo.eq_1 Pa) aH ?_
 apply aF
 refine a6 i49.eq_1 ?_
 intro _
 refine .all (ah _ _ I fun y ai=>?_)
 exact bc (ag (I:y<n))
theorem nz.b6{g g':G}(h:nz x kind g fl aO b)(c1:ey κ.dv g)(c2:ey κ.dv g')(aw:∀y∈fl,g' y=g y):nz x kind g' fl aO b:=by
 obtain⟨f,fz,dw,fA,cU,⟨aI,ak,hZ,dr,nS,sub,mj,rfl,de⟩⟩:=h
 refine⟨f,fz,dw,fA,cU,⟨aI,by rw[aw aO aM];exact ak,hZ.b6 fun y ai=>aw y (by simp[ai]),dr.b6 fun y ai=>aw y (by simp[ai]),nS.b6 fun y ai=>aw y (by simp[ai]),?_,mj,rfl,de⟩⟩
 have aa:∀y∈cU,g' y=g y:=fun y ai=>aw y (by simp[ai])
 revert sub
 cases b.hG with
 |first=>exact id
 |enter=>exact id
 |entering v=>exact fun⟨J,bz,U,aq⟩=>⟨J,bz,U,κ.tS aq c1 c2 aa⟩
 |within v=>exact fun⟨J,bz,U,aq,aK⟩=>⟨J,bz,U,κ.tS aq c1 c2 aa,aK⟩
 |sT r=>exact fun⟨J,bz,b8,U,aq,aK,bx⟩=>⟨J,bz,b8,U,aq,κ.u5 aK c1 c2 aa,bx⟩
 |leaving r=>exact fun⟨J,bz,b8,U,aq,aK⟩=>⟨J,bz,b8,U,κ.u5 aq c1 c2 aa,aK⟩
 |fin=>exact id
theorem avr{Q:aE->bS κ->Prop}(dQ:kind=4\/kind=5)(cC:ey κ.dv g)(a3:a.an=κ.an/\a.ar=κ.ar)(ap:bm g n)(bf:∀y∈fl,y<n)(cy:∀q∈κ.dv,q.1∉fl)(h:nz x kind g fl aO b)(eO:b.hG= .first)(nD:b.e3.length<100000)(ha:b.room=0/\0<κ.e8)
 (av:uk a b (κ.tU 0) Q)
 (ah:∀a' b',Q a' b'->uc x kind g n fl aO K b' a'):aR ct bA 34 [.ptr aO 0] g n a K:=by
 obtain⟨f,fz,dw,fA,cU,⟨aI,ak,hZ,dr,nS,sub,mj,rfl,de⟩⟩:=h
 have m7:cU=[]:=by rw[eO]at sub;exact sub.2
 subst m7
 have cV:=ap _ _ ak
 refine p0 ?_
 refine bE i34 fun N aF=>?_
 have bx:List.take 5 (List.drop 10 f.l)=[.int .i64 0,.int .u64 0,.br,.int .i64 1,.int .i64 0]:=by
  have:List.take 5 (List.drop 10 f.l)=[f.lu,f.lv,f.lx,f.ly,f.lz]:=rfl
  rw[this,aI.lu,aI.lv,aI.lx,aI.ly,aI.lz]
 refine aL IQ (d' ak bx aI.d0 aI.fg @h2 (ag (I:aO<n))) ?_
 refine aI9 dQ fun bY bq g4 c5=>?_
 intro dE
 have dL:bY aO=some (.al false f.l):=by rw[c5 aO I];exact bc (aN ak (ag (I:aO<n)))
 have R0:bY n=some (.al false [.int .i64 0,.int .u64 0,.br,.int .i64 1,.int .i64 0]):=by rw[c5 n I];exact dX
 refine aL (aN ad4.eq_1 IQ) (d' dL R0 aI.cS aI.x aI.ic @h2) ?_
 have j1:∀y,y<n->bY y=g y:=fun y ai=>by rw[c5 y I];exact bc (ag (I:y<n))
 have jL:ey κ.dv bY:=fun q av=>by rw[j1 _ (ap _ _ (cC q av))];exact cC q av
 refine aeO (x:=x) jL fun aT cB=>?_
 intro dC
 have azp:IntKind.wrap .u64 κ.e8=κ.e8:=wrap_u64 I (by have:=x.tM.2;omega)
 have Kk:(κ.e8<0)=False:=eq_false I
 refine aL (aN ad3.eq_1 IQ) (gq dL R0 azp Kk aI.x aI.ic @h2) ?_
 have hg:Fr g bY n aT (aO::(fz++(dw++(fA++[])))) (aO::(fz++(dw++(fA++[])))):=⟨I,fun y ai=>by have:=bf y ai;omega,fun y ai=>.inl ai,fun y ai _=>j1 y ai⟩
 have DI:nz x kind g (aO::(fz++(dw++(fA++[])))) aO b:=⟨f,fz,dw,fA,[],aI,ak,hZ,dr,nS,sub,mj,rfl,de⟩
 refine dO fun gB=>aR.mono (PH (K:=fun _ g n a=>K (.bN []) g n a) jL a3 gB hg.lt cy (DI.b6 cC jL fun y ai=>j1 y (bf y ai)) (.inr eO) nD I (fun h=>I) (fun _=>by rw[ha.1];exact av) fun a' b' av=>(ah a' b' av).trans hg) fun v4 qK D8 gx v0 kt=>?_
 intro jN
 apply aF
 refine a6 i34.eq_1 ?_
 exact fun _=>.all fun _=>kt
end
