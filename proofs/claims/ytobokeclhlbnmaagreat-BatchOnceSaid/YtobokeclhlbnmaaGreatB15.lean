/- Part of the proof of BatchOnce, for every input. -/
import Derived.Test.YtobokeclhlbnmaaGreatB14
set_option linter.all false
namespace Go.Proofs.Run
open Go Go.Abs
attribute [local irreducible] b9 cI cr cg aR
set_option maxRecDepth 100000
set_option maxHeartbeats 4000000
section
variable{κ:fw}{x:hE κ}{kind:Int}{g:G}{n:Nat}{α:Type}{A:h3 α}{a:α}{K:cj α}{fl:List Nat}{aO:Nat}{b:bS κ}
theorem Cz{db:Nat}{ro:Bool}{d1 d2 d3 d4:Int}(ap:bm g n)(lT:g db=some (.al ro [.int .i64 kind,.int .i64 d1,.int .i64 d2,.int .i64 d3,.int .i64 d4]))
 (ah:∀g' n' c,n<=n'->(∀y,y<n->g' y=g y)->(c=0->rY kind d1 d2 d3 d4)->(rY kind d1 d2 d3 d4->kind=4\/kind=5->c=0)->K (.int .i64 c) g' n' a):aR A bA 5 [.slice db 0 1 1 5] g n a K:=by
 have wk:=ap _ _ lT
 refine bE i5 fun N aF=>?_
 refine aL Co @lK ?_
 refine qp (fun eX t ba aT b7=>∃i,eX=1-i/\i<=1/\n<=aT/\b7=a/\bm ba aT/\(∀y,y<n->ba y=g y)/\(i=1->rY kind d1 d2 d3 d4)/\aW t (.t 0)= .slice db 0 1 1 5/\aW t (.t 9)= .slice db 0 1 1 5/\aW t (.t 10)= .int .i64 1/\aW t (.t 11)= .int .i64 i) 1 ⟨0,I,I,I,rfl,ap,fun _ _=>rfl,I,dW,dW,dW,bD @Int.natCast_zero⟩ ?_
 rintro eX t ba aT b7 ⟨i,rfl,aC,az,rfl,dC,cQ,gP,cZ,FX,e4,ef⟩
 have qQ:ba db=some (.al ro [.int .i64 kind,.int .i64 d1,.int .i64 d2,.int .i64 d3,.int .i64 d4]):=by rw[cQ db wk];exact lT
 by_cases J:i=1
 .subst J
  have c1:((1:Nat):Int)=1:=rfl
  refine aL Co (d' cZ FX e4 ef c1 @Int.lt_irrefl) ?_
  apply aF
  refine a6 i5.eq_1 ?_
  exact fun _=>.all (ah _ _ _ az cQ (fun _=>gP rfl) fun _ _=>rfl)
 .have a5:i=0:=I
  subst a5
  have c1:((0:Nat):Int)=0:=rfl
  refine aL Co (e_ cZ FX e4 ef c1 qQ @Int.lt_irrefl (ag (I:db<aT))) ?_
  refine dO fun gB=>awL (ro:=ro) gB (bc (aN qQ (ag (I:db<aT)))) fun qK ik c v0 sr af lS=>?_
  intro jN
  have jM:∀y,y<n->qK y=g y:=fun y ai=>by
   rw[sr y I,<-cQ y ai]
   have:y<aT:=I
   exact bc (ag (I:y<aT))
  by_cases bx:c=0
  .have cp:(c != 0)=false:=by simp[bx]
   have dA:IntKind.wrap .i64 ((0:Int)+1)=1:=rfl
   refine aL (aN MV.eq_1 Co) (gq cZ FX e4 ef c1 cp dA) ?_
   exact⟨0,I,1,rfl,I,I,jN,jM,fun _=>af bx,rfl⟩
  .have cp:(c != 0)=true:=by simp[bx]
   refine aL (aN MV.eq_1 Co) (d' cZ FX e4 ef c1 cp) ?_
   apply aF
   refine a6 i5.eq_1 ?_
   exact fun _=>.all (ah _ _ _ I jM af lS)
end
end Go.Proofs.Run
namespace Go.Proofs.Run
open Go Go.Abs
attribute [local irreducible] b9 cI cr cg
set_option maxRecDepth 100000
set_option maxHeartbeats 4000000
section
def lM:h3 (Option aE) where
 q6 kP kn σ:=match kP with
  |none=>∀b,¬kn b
  |some a=>ct.q6 a kn σ
 loc:=by
  rintro(_|a) kn σ σ' h he
  .exact h
  .exact ct.loc h he
theorem qj{g:G}{n:Nat}{a:aE}{K:cj (Option aE)}{f:FuncId}{args:List V}(h:aR ct bA f args g n a (fun v g' n' a'=>K v g' n' (some a'))):aR lM bA f args g n (some a) K:=by
 intro σ aa
 have eK:Sat ct g n a σ:=⟨aa.fresh,aa.next,aa.at_,aa.a_⟩
 refine(h σ eK).mono ?_
 rintro v σ' ⟨g',n',a',az,eK,ah⟩
 exact⟨g',n',some a',az,⟨eK.fresh,eK.next,eK.at_,eK.a_⟩,ah⟩
def minus(g:G)(l:List Nat):G:=fun b=>if b∈l then none else g b
theorem au4{g:G}{n:Nat}{K:cj (Option aE)}{f:FuncId}{args:List V}(h:aR lM bA f args g n none (fun v g' n' kP=>kP=none/\∃a,iE g' a/\K v (minus g' a.own) n' (some a))):aR lM bA f args g n none K:=by
 intro σ aa
 refine(h σ aa).mono ?_
 rintro v σ' ⟨g',n',_,az,eK,rfl,a,dJ,ah⟩
 refine⟨minus g' a.own,n',some a,az,⟨eK.fresh,eK.next,fun b c ad=>?_,fun b=>b∈a.own,⟨fun b=>Iff.rfl,g',dJ,fun b c _ af=>(eK.at_ b c af).2⟩,fun b ad=>?_⟩,ah⟩
 .by_cases au:b∈a.own
  .simp only[minus,if_pos au]at ad;simp at ad
  .simp only[minus,if_neg au]at ad;exact eK.at_ b c ad
 .obtain⟨c,af⟩:=dJ.kY b ad
  exact⟨(eK.at_ b c af).1,if_pos ad⟩
attribute [local irreducible] aR
section
variable{α:Type}{A:h3 α}{g:G}{n:Nat}{a:α}{K:cj α}
theorem Tr(ap:bm g n)(ah:∀g' n' an lb,n<=an->n<=lb->an≠lb->n<=n'->g' an=some (.al false [.map lb,.int .i64 0,.int .i64 4096,.int .i64 0,.int .i64 0])->g' lb=some (.mp false [])->(∀y,y<n->g' y=g y)->K (.ptr an 0) g' n' a):aR A bA 29 [.int .i64 4096] g n a K:=by
 refine bE i29 fun N aF=>?_
 refine dl auI ?_
 trace_state
 apply aF
 refine a6 i29.eq_1 ?_
 intro _
 refine .all (ah _ _ (n+1) n I I I I ?_ ?_ fun y ai=>?_)
 .exact dX
 .exact dX
 .exact bc (ag (I:y<n))
end
variable{g:G}{n:Nat}{K:cj (Option aE)}
def f'(an lb ar dS:Nat):aE:=⟨an,lb,ar,dS,.br,[],⟨[],0,4096,0,0⟩,5,[],[]⟩
theorem Q5{an lb:Nat}(ap:bm g n)(hm:g an=some (.al false [.map lb,.int .i64 0,.int .i64 4096,.int .i64 0,.int .i64 0]))(aA:g lb=some (.mp false []))(bp:an≠lb)
 (ah:∀g' n' ar dS,n<=n'->n<=ar->(∀y,y<n->y≠an->y≠lb->g' y=g y)->K (.ptr ar 0) g' n' (some (f' an lb ar dS))):aR lM bA 30 [.int .i64 5,.ptr an 0] g n none K:=by
 have mm:=ap _ _ hm
 have iZ:=ap _ _ aA
 refine au4 ?_
 refine bE i30 fun N aF=>?_
 refine dl auM ?_
 apply aF
 refine a6 i30.eq_1 ?_
 intro _
 refine .all ⟨rfl,f' an lb (n+1) n,⟨⟨?_,?_,by simp[f'],by simp[f'],by simp[f'],by simp[f'],by simp[f'],by simp[f'],by simp[f']⟩,?_,?_,.inl ⟨rfl,rfl,rfl,rfl⟩,by simp[f'],?_,by simp[f'],by simp[f'],by simp[f'],by simp[f'],by simp[f']⟩,?_⟩
 .exact bc (cc f'.eq_1 ck.cells.eq_1 hm (ag (I:an<n)))
 .exact bc (cw f'.eq_1 aA (ag (I:lb<n)))
 .exact bc f'.eq_1
 .exact bc (aN f'.eq_1 ki.eq_1)
 .simp only[f',aE.own,List.map_nil,List.append_nil,List.nodup_cons,List.mem_cons,List.not_mem_nil,or_false,not_or,List.nodup_nil,and_true,not_false_eq_true];omega
 .refine ah _ _ (n+1) n I I fun y ai J U=>?_
  have:y∉(f' an lb (n+1) n).own:=by
   simp only[f',aE.own,List.map_nil,List.append_nil,List.mem_cons,List.not_mem_nil,or_false,not_or];omega
  simp only[minus,if_neg this]
  exact bc (ag (I:y<n))
end
end Go.Proofs.Run
namespace Go.Proofs.Run
open Go Go.Abs
attribute [local irreducible] b9 cI cr cg aR
set_option maxRecDepth 100000
set_option maxHeartbeats 4000000
section
variable{κ:fw}{x:hE κ}{kind:Int}{g:G}{n:Nat}{a:aE}{K:cj aE}{fl:List Nat}{aO:Nat}{b:bS κ}
theorem Qb{α:Type}{A:h3 α}{g:G}{n:Nat}{a:α}{K:cj α}{db:Nat}{ro:Bool}{cP eB iT mv nw:Int}(ap:bm g n)(lT:g db=some (.al ro [.int .i64 cP,.int .i64 eB,.int .i64 iT,.int .i64 mv,.int .i64 nw]))(ah:∀g' n' b',n<=b'->n<=n'->g' b'=some (.al false [.int .i64 cP,.int .i64 eB,.int .i64 iT,.int .i64 mv,.int .i64 nw])->(∀y,y<n->g' y=g y)->K (.slice b' 0 1 1 5) g' n' a):aR A bA 47 [.slice db 0 1 1 5] g n a K:=by
 have wk:=ap _ _ lT
 refine bE i47 fun N aF=>?_
 have aD:(db=n)=False:=eq_false I
 refine fG auX (cc lT fY.eq_1 @Int.toNat_natCast (ag (I:db<n))) ?_
 apply aF
 refine a6 i47.eq_1 ?_
 intro _
 refine .all (ah _ _ (n+1) I I ?_ fun y ai=>?_)
 .exact dX
 .exact bc (ag (I:y<n))
theorem aAz{d1 d3:Int}(na:0<=a.m.made/\a.m.made<1000000000)(o8:4000<a.m.room)(gP:rY 4 d1 1 d3 0)(ap:bm g n)
 (ah:∀g' n' aP b,n<=n'->n<=aP->g' aP=some (gn ⟨aP,d1,d3,a.m.made+1⟩ a.an a.ar)->(∀y,y<n->g' y=g y)->K (.bN [.ptr aP 0,.int .i64 0]) g' n' (a.make (2+3*d3).toNat b)):aR ct bA 86 [.ptr a.an 0,.ptr a.ar 0,.agg [.int .i64 4,.int .i64 d1,.int .i64 1,.int .i64 d3,.int .i64 0]] g n a K:=by
 obtain⟨J,U,aq,aK,bx⟩:=gP.1 rfl
 refine bE i86 fun N aF=>?_
 refine dl IX ?_
 refine dO fun ku=>Cz (ro:=false) (kind:=4) (d1:=d1) (d2:=1) (d3:=d3) (d4:=0) ku (dX) fun bY bq c g4 c5 _ af=>?_
 intro dE
 have jK:c=0:=af gP (.inl rfl)
 subst jK
 have jr:bY n=some (.al false [.int .i64 4,.int .i64 d1,.int .i64 1,.int .i64 d3,.int .i64 0]):=by rw[c5 n I];exact dX
 have dA:IntKind.wrap .i64 (3*d3)=3*d3:=wrap_i64 I I
 have h1:IntKind.wrap .i64 (2+3*d3)=(((2+3*d3).toNat:Nat):Int):=by rw[wrap_i64 I I];omega
 refine aL (aN aet.eq_1 IX) (cw jr dA h1) ?_
 refine Hg I I na (fun h=>I) fun _ aT b cB=>?_
 intro dC
 refine aL (aN aeu.eq_1 IX) (aN jr (ag (I:n<aT))) ?_
 apply aF
 refine a6 i86.eq_1 ?_
 intro _
 refine .all (ah _ _ aT b I I ?_ fun y ai=>?_)
 .exact bc gn.eq_1
 .rw[show g y=bY y by rw[c5 y I];exact bc (ag (I:y<n))]
  exact bc (ag (I:y<aT))
theorem aCZ{d1:Int}(na:0<=a.m.made/\a.m.made<1000000000)(o8:4000<a.m.room)(gP:rY 5 d1 1 0 0)(ap:bm g n)
 (ah:∀g' n' aP b,n<=n'->n<=aP->g' aP=some (fK ⟨aP,d1,a.m.made+1⟩ a.an a.ar)->(∀y,y<n->g' y=g y)->K (.bN [.ptr aP 0,.int .i64 0]) g' n' (a.make 4 b)):aR ct bA 101 [.ptr a.an 0,.ptr a.ar 0,.agg [.int .i64 5,.int .i64 d1,.int .i64 1,.int .i64 0,.int .i64 0],.int .i64 1] g n a K:=by
 refine bE i101 fun N aF=>?_
 refine dl Iz ?_
 refine dO fun ku=>Cz (ro:=false) (kind:=5) (d1:=d1) (d2:=1) (d3:=0) (d4:=0) ku (dX) fun bY bq c g4 c5 _ af=>?_
 intro dE
 have jK:c=0:=af gP (.inr rfl)
 subst jK
 have jr:bY n=some (.al false [.int .i64 5,.int .i64 d1,.int .i64 1,.int .i64 0,.int .i64 0]):=by rw[c5 n I];exact dX
 refine aL (aN adh.eq_1 Iz) jr ?_
 refine Hg (k:=4) I I na (fun h=>I) fun _ aT b cB=>?_
 intro dC
 refine aL (aN adi.eq_1 Iz) (aN jr (ag (I:n<aT))) ?_
 apply aF
 refine a6 i101.eq_1 ?_
 intro _
 refine .all (ah _ _ aT b I I ?_ fun y ai=>?_)
 .exact bc fK.eq_1
 .rw[show g y=bY y by rw[c5 y I];exact bc (ag (I:y<n))]
  exact bc (ag (I:y<aT))
end
section
variable{κ:fw}{x:hE κ}{kind:Int}{g:G}{n:Nat}{a:aE}{K:cj aE}{fl:List Nat}{aO:Nat}{b:bS κ}
theorem au_{eB iT mv nw:Int}(ah:∀g' n',n<=n'->(∀y,y<n->g' y=g y)->K (.agg [.int .i64 4,.int .i64 eB,.int .i64 iT,.int .i64 mv,.int .i64 nw]) g' n' a):aR ct bA 87 [.agg [.int .i64 4,.int .i64 eB,.int .i64 iT,.int .i64 mv,.int .i64 nw]] g n a K:=by
 refine bE i87 fun N aF=>?_
 refine dl au2 ?_
 apply aF
 refine a6 i87.eq_1 ?_
 intro _
 refine .all (ah _ _ I fun y ai=>?_)
 exact bc (ag (I:y<n))
theorem aAt{d1 d3:Int}(na:0<=a.m.made/\a.m.made<1000000000)(o8:4000<a.m.room)(gP:rY 4 d1 1 d3 0)(ap:bm g n)
 (ah:∀g' n' aP cx b,n<=n'->n<=aP->n<=cx->g' aP=some (gn ⟨aP,d1,d3,a.m.made+1⟩ a.an a.ar)->g' cx=some (.al false [.ptr aP 0])->(∀y,y<n->g' y=g y)->K (.bN [.agg [.fn (.func 88) [] [.ptr cx 0],.fn (.func 90) [.ptr aP 0] [],.fn (.func 91) [] [.ptr cx 0],.int .i64 d3],.int .i64 0]) g' n' (a.make (2+3*d3).toNat b)):aR ct bA 48 [.ptr a.an 0,.ptr a.ar 0,.agg [.int .i64 4,.int .i64 d1,.int .i64 1,.int .i64 d3,.int .i64 0],.int .i64 1] g n a K:=by
 refine bE i48 fun N aF=>?_
 refine dl Cn ?_
 refine au_ fun bY bq g4 c5=>?_
 intro dE
 have jr:bY n=some (.al false [.int .i64 4,.int .i64 d1,.int .i64 1,.int .i64 d3,.int .i64 0]):=by rw[c5 n I];exact dX
 have rm:bY (n+1)=some (.al false [.fZ,.fZ,.fZ,.int .i64 0]):=by rw[c5 (n+1) I];exact dX
 refine dl (aN aem.eq_1 Cn) ?_
 refine aAz na o8 gP dE fun ba aT aP b cB o9 aj cQ=>?_
 intro dC
 have da:=dC _ _ aj
 have hP:ba n=some (.al false [.int .i64 4,.int .i64 d1,.int .i64 1,.int .i64 d3,.int .i64 0]):=by rw[cQ n I];exact jr
 have pL:ba (n+1)=some (.al false [.fZ,.fZ,.fZ,.int .i64 0]):=by rw[cQ (n+1) I];exact rm
 refine aL (aN ael.eq_1 Cn) (cc hP pL (ag (I:n<aT)) (ag (I:n+1<aT))) ?_
 apply aF
 generalize av:qo _ _ _=q
 refine aMK i48.eq_1 av fun h=>?_
 subst h
 intro _
 refine .all (ah _ _ aP aT b I I I ?_ ?_ fun y ai=>?_)
 .exact bc (aN aj (ag (I:aP<aT)))
 .exact dX
 .rw[show g y=ba y by rw[cQ y I,c5 y I];exact bc (ag (I:y<n))]
  exact bc (ag (I:y<aT))
theorem aCY{d1:Int}(na:0<=a.m.made/\a.m.made<1000000000)(o8:4000<a.m.room)(gP:rY 5 d1 1 0 0)(ap:bm g n)
 (ah:∀g' n' aP cx b,n<=n'->n<=aP->n<=cx->g' aP=some (fK ⟨aP,d1,a.m.made+1⟩ a.an a.ar)->g' cx=some (.al false [.ptr aP 0])->(∀y,y<n->g' y=g y)->K (.bN [.agg [.fn (.func 102) [] [.ptr cx 0],.fn (.func 104) [.ptr aP 0] [],.fn (.func 105) [] [.ptr cx 0],.int .i64 1],.int .i64 0]) g' n' (a.make 4 b)):aR ct bA 48 [.ptr a.an 0,.ptr a.ar 0,.agg [.int .i64 5,.int .i64 d1,.int .i64 1,.int .i64 0,.int .i64 0],.int .i64 1] g n a K:=by
 refine bE i48 fun N aF=>?_
 refine dl Cn ?_
 refine dO fun dE=>aCZ na o8 gP dE fun ba aT aP b cB o9 aj cQ=>?_
 intro dC
 have da:=dC _ _ aj
 have hP:ba n=some (.al false [.int .i64 5,.int .i64 d1,.int .i64 1,.int .i64 0,.int .i64 0]):=by rw[cQ n I];exact dX
 have pL:ba (n+1)=some (.al false [.fZ,.fZ,.fZ,.int .i64 0]):=by rw[cQ (n+1) I];exact dX
 refine aL (aN aen.eq_1 Cn) (cc hP pL (ag (I:n<aT)) (ag (I:n+1<aT))) ?_
 apply aF
 generalize av:qo _ _ _=q
 refine aMK i48.eq_1 av fun h=>?_
 subst h
 intro _
 refine .all (ah _ _ aP aT b I I I ?_ ?_ fun y ai=>?_)
 .exact bc (aN aj (ag (I:aP<aT)))
 .exact dX
 .rw[show g y=ba y by rw[cQ y I];exact bc (ag (I:y<n))]
  exact bc (ag (I:y<aT))
end
section
variable{κ:fw}{x:hE κ}{kind:Int}{g:G}{n:Nat}{a:aE}{K:cj aE}{fl:List Nat}{aO:Nat}{b:bS κ}
theorem aAA{d1 d3:Int}{db:Nat}{ro:Bool}(na:0<=a.m.made/\a.m.made<1000000000)(o8:4000<a.m.room)(gP:rY 4 d1 1 d3 0)(ap:bm g n)(lT:g db=some (.al ro [.int .i64 4,.int .i64 d1,.int .i64 1,.int .i64 d3,.int .i64 0]))
 (ah:∀g' n' X gF eZ cx aP b,n<=n'->g' X=some (.al false [.ptr a.an 0,.slice eZ 0 1 1 5,.int .i64 1,.slice gF 0 1 1 4])/\g' gF=some (.al false [.fn (.func 88) [] [.ptr cx 0],.fn (.func 90) [.ptr aP 0] [],.fn (.func 91) [] [.ptr cx 0],.int .i64 d3])/\g' eZ=some (.al false [.int .i64 4,.int .i64 d1,.int .i64 1,.int .i64 d3,.int .i64 0])/\g' cx=some (.al false [.ptr aP 0])/\g' aP=some (gn ⟨aP,d1,d3,a.m.made+1⟩ a.an a.ar)->(∀y,y<n->g' y=g y)->K (.bN [.ptr X 0,.int .i64 0]) g' n' (a.make (2+3*d3).toNat b)):aR ct bA 31 [.ptr a.an 0,.ptr a.ar 0,.slice db 0 1 1 5,.int .i64 1] g n a K:=by
 have wk:=ap _ _ lT
 refine bE i31 fun N aF=>?_
 refine dl qF ?_
 refine Cz (ro:=ro) (kind:=4) ap lT fun bY bq c g4 c5 _ af=>?_
 intro dE
 have jK:c=0:=af gP aM
 subst jK
 have lB:bY db=some (.al ro [.int .i64 4,.int .i64 d1,.int .i64 1,.int .i64 d3,.int .i64 0]):=by rw[c5 db wk];exact lT
 refine dl (aN MK.eq_1 qF) ?_
 refine Qb dE lB fun ba aT eZ azs cB qQ cQ=>?_
 intro dC
 have LC:=dC _ _ qQ
 have uB:ba db=some (.al ro [.int .i64 4,.int .i64 d1,.int .i64 1,.int .i64 d3,.int .i64 0]):=by rw[cQ db I];exact lB
 refine aL (aN ML.eq_1 qF) @lK ?_
 refine qp (fun eX t fH cq fF=>aT<cq/\(∀y,y<aT->fH y=ba y)/\aW t (.t 0)= .ptr a.an 0/\aW t (.t 1)= .ptr a.ar 0/\aW t (.t 3)= .int .i64 1/\aW t (.t 11)= .ptr aT 0/\aW t (.t 33)= .slice db 0 1 1 5/\aW t (.t 34)= .int .i64 1/\((eX=1/\fF=a/\fH aT=some (.al false [.ptr a.an 0,.slice eZ 0 1 1 5,.int .i64 1,.br])/\aW t (.t 35)= .int .i64 0)\/(eX=0/\aW t (.t 35)= .int .i64 1/\∃X gF eZ cx aP b,X=aT/\fF=a.make (2+3*d3).toNat b/\fH X=some (.al false [.ptr a.an 0,.slice eZ 0 1 1 5,.int .i64 1,.slice gF 0 1 1 4])/\fH gF=some (.al false [.fn (.func 88) [] [.ptr cx 0],.fn (.func 90) [.ptr aP 0] [],.fn (.func 91) [] [.ptr cx 0],.int .i64 d3])/\fH eZ=some (.al false [.int .i64 4,.int .i64 d1,.int .i64 1,.int .i64 d3,.int .i64 0])/\fH cx=some (.al false [.ptr aP 0])/\fH aP=some (gn ⟨aP,d1,d3,a.m.made+1⟩ a.an a.ar)))) 1 ⟨?_,?_,?_⟩ ?_
 .omega
 .intro y ai
  exact bc (ag (I:y<aT))
 .refine⟨dW,dW,dW,dW,dW,dW,.inl ⟨rfl,rfl,dX,dW⟩⟩
 rintro eX t fH cq fF ⟨iJ,m8,cZ,aD,bP,ef,vv,vw,bd⟩
 have j1:∀y,y<n->fH y=g y:=fun y ai=>by rw[m8 y I,cQ y I,c5 y ai]
 rcases bd with⟨rfl,rfl,tf,s9⟩|⟨rfl,s9,X,gF,eZ,cx,aP,b,rfl,rfl,aB⟩
 .have p5:fH db=some (.al ro [.int .i64 4,.int .i64 d1,.int .i64 1,.int .i64 d3,.int .i64 0]):=by rw[j1 db wk];exact lT
  have dA:IntKind.wrap .i64 ((0:Int)+1)=1:=rfl
  refine aL qF (kw cZ aD bP ef vv vw s9 p5 @Int.lt_irrefl (ag (I:db<cq)) (ag (I:aT<cq))) ?_
  refine dO fun jN=>aAt na o8 gP jN fun ko dD aP cx b v3 o9 Gc J U jM=>?_
  intro p_
  have da:=p_ _ _ J
  have sE:=p_ _ _ U
  have J5:ko aT=some (.al false [.ptr fF.an 0,.slice eZ 0 1 1 5,.int .i64 1,.br]):=by rw[jM aT I];exact bc (aN tf (ag (I:aT<cq)))
  have JZ:ko eZ=some (.al false [.int .i64 4,.int .i64 d1,.int .i64 1,.int .i64 d3,.int .i64 0]):=by rw[jM eZ I];exact bc (cw (m8 eZ LC) qQ (ag (I:eZ<cq)))
  have KC:∀y,y<aT->ko y=ba y:=fun y ai=>by rw[jM y I];exact bc (aN (m8 y ai) (ag (I:y<cq)))
  have Be:V.same 40 (V.agg [.fn (.func 88) [] [.ptr cx 0],.fn (.func 90) [.ptr aP 0] [],.fn (.func 91) [] [.ptr cx 0],.int .i64 d3]) (V.agg [.fn (.func 88) [] [.ptr cx 0],.fn (.func 90) [.ptr aP 0] [],.fn (.func 91) [] [.ptr cx 0],.int .i64 d3])=true:=by simp[V.same,V.r1]
  refine fG (aN MM.eq_1 qF) (bs J5 Be cZ aD bP ef vv vw s9 fY.eq_1 @Int.toNat_natCast (jO (ag (I:aT<dD)) (ag (I:eZ<dD)) (ag (I:aP<dD)) (ag (I:cx<dD)) (ag (I:dD<dD+1)) (ag (I:aT<dD+1)) (ag (I:eZ<dD+1)) (ag (I:aP<dD+1)) (ag (I:cx<dD+1)))) ?_
  refine aL qF (e_ dA cZ aD bP ef vv vw s9) ?_
  have c1:(aT=cx)=False:=eq_false I
  have c2:(aT=aP)=False:=eq_false I
  have eu:(aT=eZ)=False:=eq_false I
  have jH:(aT=dD+12)=False:=eq_false I
  refine⟨0,I,I,fun y ai=>?_,.inr ⟨rfl,aT,dD+12,eZ,cx,aP,b,rfl,rfl,?_,?_,?_,?_,?_⟩⟩
  .rw[<-KC y ai]
   have m1:(aT=y)=False:=eq_false I
   exact bc (cw m1 (ag (I:y<dD)) (ag (I:y<dD+1)))
  .exact dX
  .exact bc jH
  .exact bc (cc eu JZ (ag (I:eZ<dD)) (ag (I:eZ<dD+1)))
  .exact bc (cc c1 U (ag (I:cx<dD)) (ag (I:cx<dD+1)))
  .exact bc (cc c2 J (ag (I:aP<dD)) (ag (I:aP<dD+1)))
 .refine aL qF (e_ cZ aD bP ef vv vw s9 @Int.lt_irrefl) ?_
  apply aF
  refine a6 i31.eq_1 ?_
  exact fun _=>.all (ah _ _ _ gF eZ cx aP b I aB j1)
theorem aC0{d1:Int}{db:Nat}{ro:Bool}(na:0<=a.m.made/\a.m.made<1000000000)(o8:4000<a.m.room)(gP:rY 5 d1 1 0 0)(ap:bm g n)(lT:g db=some (.al ro [.int .i64 5,.int .i64 d1,.int .i64 1,.int .i64 0,.int .i64 0]))
 (ah:∀g' n' X gF eZ cx aP b,n<=n'->g' X=some (.al false [.ptr a.an 0,.slice eZ 0 1 1 5,.int .i64 1,.slice gF 0 1 1 4])/\g' gF=some (.al false [.fn (.func 102) [] [.ptr cx 0],.fn (.func 104) [.ptr aP 0] [],.fn (.func 105) [] [.ptr cx 0],.int .i64 1])/\g' eZ=some (.al false [.int .i64 5,.int .i64 d1,.int .i64 1,.int .i64 0,.int .i64 0])/\g' cx=some (.al false [.ptr aP 0])/\g' aP=some (fK ⟨aP,d1,a.m.made+1⟩ a.an a.ar)->(∀y,y<n->g' y=g y)->K (.bN [.ptr X 0,.int .i64 0]) g' n' (a.make 4 b)):aR ct bA 31 [.ptr a.an 0,.ptr a.ar 0,.slice db 0 1 1 5,.int .i64 1] g n a K:=by
 have wk:=ap _ _ lT
 refine bE i31 fun N aF=>?_
 refine dl qF ?_
 refine Cz (ro:=ro) (kind:=5) ap lT fun bY bq c g4 c5 _ af=>?_
 intro dE
 have jK:c=0:=af gP aM
 subst jK
 have lB:bY db=some (.al ro [.int .i64 5,.int .i64 d1,.int .i64 1,.int .i64 0,.int .i64 0]):=by rw[c5 db wk];exact lT
 refine dl (aN MK.eq_1 qF) ?_
 refine Qb dE lB fun ba aT eZ azs cB qQ cQ=>?_
 intro dC
 have LC:=dC _ _ qQ
 have uB:ba db=some (.al ro [.int .i64 5,.int .i64 d1,.int .i64 1,.int .i64 0,.int .i64 0]):=by rw[cQ db I];exact lB
 refine aL (aN ML.eq_1 qF) @lK ?_
 refine qp (fun eX t fH cq fF=>aT<cq/\(∀y,y<aT->fH y=ba y)/\aW t (.t 0)= .ptr a.an 0/\aW t (.t 1)= .ptr a.ar 0/\aW t (.t 3)= .int .i64 1/\aW t (.t 11)= .ptr aT 0/\aW t (.t 33)= .slice db 0 1 1 5/\aW t (.t 34)= .int .i64 1/\((eX=1/\fF=a/\fH aT=some (.al false [.ptr a.an 0,.slice eZ 0 1 1 5,.int .i64 1,.br])/\aW t (.t 35)= .int .i64 0)\/(eX=0/\aW t (.t 35)= .int .i64 1/\∃X gF eZ cx aP b,X=aT/\fF=a.make 4 b/\fH X=some (.al false [.ptr a.an 0,.slice eZ 0 1 1 5,.int .i64 1,.slice gF 0 1 1 4])/\fH gF=some (.al false [.fn (.func 102) [] [.ptr cx 0],.fn (.func 104) [.ptr aP 0] [],.fn (.func 105) [] [.ptr cx 0],.int .i64 1])/\fH eZ=some (.al false [.int .i64 5,.int .i64 d1,.int .i64 1,.int .i64 0,.int .i64 0])/\fH cx=some (.al false [.ptr aP 0])/\fH aP=some (fK ⟨aP,d1,a.m.made+1⟩ a.an a.ar)))) 1 ⟨?_,?_,?_⟩ ?_
 .omega
 .intro y ai
  exact bc (ag (I:y<aT))
 .refine⟨dW,dW,dW,dW,dW,dW,.inl ⟨rfl,rfl,dX,dW⟩⟩
 rintro eX t fH cq fF ⟨iJ,m8,cZ,aD,bP,ef,vv,vw,bd⟩
 have j1:∀y,y<n->fH y=g y:=fun y ai=>by rw[m8 y I,cQ y I,c5 y ai]
 rcases bd with⟨rfl,rfl,tf,s9⟩|⟨rfl,s9,X,gF,eZ,cx,aP,b,rfl,rfl,aB⟩
 .have p5:fH db=some (.al ro [.int .i64 5,.int .i64 d1,.int .i64 1,.int .i64 0,.int .i64 0]):=by rw[j1 db wk];exact lT
  have dA:IntKind.wrap .i64 ((0:Int)+1)=1:=rfl
  refine aL qF (kw cZ aD bP ef vv vw s9 p5 @Int.lt_irrefl (ag (I:db<cq)) (ag (I:aT<cq))) ?_
  refine dO fun jN=>aCY na o8 gP jN fun ko dD aP cx b v3 o9 Gc J U jM=>?_
  intro p_
  have da:=p_ _ _ J
  have sE:=p_ _ _ U
  have J5:ko aT=some (.al false [.ptr fF.an 0,.slice eZ 0 1 1 5,.int .i64 1,.br]):=by rw[jM aT I];exact bc (aN tf (ag (I:aT<cq)))
  have JZ:ko eZ=some (.al false [.int .i64 5,.int .i64 d1,.int .i64 1,.int .i64 0,.int .i64 0]):=by rw[jM eZ I];exact bc (cw (m8 eZ LC) qQ (ag (I:eZ<cq)))
  have KC:∀y,y<aT->ko y=ba y:=fun y ai=>by rw[jM y I];exact bc (aN (m8 y ai) (ag (I:y<cq)))
  have Be:V.same 40 (V.agg [.fn (.func 102) [] [.ptr cx 0],.fn (.func 104) [.ptr aP 0] [],.fn (.func 105) [] [.ptr cx 0],.int .i64 1]) (V.agg [.fn (.func 102) [] [.ptr cx 0],.fn (.func 104) [.ptr aP 0] [],.fn (.func 105) [] [.ptr cx 0],.int .i64 1])=true:=by simp[V.same,V.r1]
  refine fG (aN MM.eq_1 qF) (bs J5 Be cZ aD bP ef vv vw s9 fY.eq_1 @Int.toNat_natCast (jO (ag (I:aT<dD)) (ag (I:eZ<dD)) (ag (I:aP<dD)) (ag (I:cx<dD)) (ag (I:dD<dD+1)) (ag (I:aT<dD+1)) (ag (I:eZ<dD+1)) (ag (I:aP<dD+1)) (ag (I:cx<dD+1)))) ?_
  refine aL qF (e_ dA cZ aD bP ef vv vw s9) ?_
  have c1:(aT=cx)=False:=eq_false I
  have c2:(aT=aP)=False:=eq_false I
  have eu:(aT=eZ)=False:=eq_false I
  have jH:(aT=dD+12)=False:=eq_false I
  refine⟨0,I,I,fun y ai=>?_,.inr ⟨rfl,aT,dD+12,eZ,cx,aP,b,rfl,rfl,?_,?_,?_,?_,?_⟩⟩
  .rw[<-KC y ai]
   have m1:(aT=y)=False:=eq_false I
   exact bc (cw m1 (ag (I:y<dD)) (ag (I:y<dD+1)))
  .exact dX
  .exact bc jH
  .exact bc (cc eu JZ (ag (I:eZ<dD)) (ag (I:eZ<dD+1)))
  .exact bc (cc c1 U (ag (I:cx<dD)) (ag (I:cx<dD+1)))
  .exact bc (cc c2 J (ag (I:aP<dD)) (ag (I:aP<dD+1)))
 .refine aL qF (e_ cZ aD bP ef vv vw s9 @Int.lt_irrefl) ?_
  apply aF
  refine a6 i31.eq_1 ?_
  exact fun _=>.all (ah _ _ _ gF eZ cx aP b I aB j1)
end
section
variable{κ:fw}{x:hE κ}{kind:Int}{g:G}{n:Nat}{K:cj (Option aE)}{fl:List Nat}{aO:Nat}{b:bS κ}
theorem ay5{d1 d3:Int}(gP:rY 4 d1 1 d3 0)(ap:bm g n)
 (ah:∀g' n' X gF eZ cx aP b an lb ar dS,n<=n'->g' X=some (.al false [.ptr an 0,.slice eZ 0 1 1 5,.int .i64 1,.slice gF 0 1 1 4])/\g' gF=some (.al false [.fn (.func 88) [] [.ptr cx 0],.fn (.func 90) [.ptr aP 0] [],.fn (.func 91) [] [.ptr cx 0],.int .i64 d3])/\g' eZ=some (.al false [.int .i64 4,.int .i64 d1,.int .i64 1,.int .i64 d3,.int .i64 0])/\g' cx=some (.al false [.ptr aP 0])/\g' aP=some (gn ⟨aP,d1,d3,1⟩ an ar)->(∀y,y<n->g' y=g y)->K (.bN [.agg [.ptr an 0,.ptr ar 0,.ptr X 0,.int .i64 4,.int .i64 d1,.int .i64 1,.int .i64 d3,.int .i64 0],.bool true]) g' n' (some ((f' an lb ar dS).make (2+3*d3).toNat b))):aR lM bA 7 [.agg [.int .i64 4,.int .i64 d1,.int .i64 1,.int .i64 d3,.int .i64 0],.int .i64 5] g n none K:=by
 refine bE i7 fun N aF=>?_
 refine dl w9 ?_
 refine dO fun ku=>Tr ku fun bY bq an lb nb oa bp g4 J U c5=>?_
 intro dE
 have mm:=dE _ _ J
 have iZ:=dE _ _ U
 have jr:bY n=some (.al false [.int .i64 4,.int .i64 d1,.int .i64 1,.int .i64 d3,.int .i64 0]):=by rw[c5 n I];exact dX
 have rm:bY (n+1)=some (.al false [.nil,.nil,.nil,.int .i64 0,.int .i64 0,.int .i64 0,.int .i64 0,.int .i64 0]):=by rw[c5 (n+1) I];exact dX
 refine JC (aN MW.eq_1 w9) ?_
 refine Q5 dE J U bp fun ba aT ar dS cB kI cQ=>?_
 intro dC
 have hP:ba n=some (.al false [.int .i64 4,.int .i64 d1,.int .i64 1,.int .i64 d3,.int .i64 0]):=by rw[cQ n I I I];exact jr
 have pL:ba (n+1)=some (.al false [.nil,.nil,.nil,.int .i64 0,.int .i64 0,.int .i64 0,.int .i64 0,.int .i64 0]):=by rw[cQ (n+1) I I I];exact rm
 refine fG (aN MY.eq_1 w9) (cw hP (ag (I:n<aT)) (ag (I:n+1<aT))) ?_
 refine dO fun gB=>qj (aAA (a:=f' an lb ar dS) (by simp[f']) (by simp[f']) gP gB (db:=aT) (ro:=false) (dX) fun fH cq X gF eZ cx aP b iJ aB m8=>?_)
 intro jN
 have l7:fH n=some (.al false [.int .i64 4,.int .i64 d1,.int .i64 1,.int .i64 d3,.int .i64 0]):=by rw[m8 n I];exact bc (aN hP (ag (I:n<aT)))
 have H1:fH (n+1)=some (.al false [.nil,.nil,.nil,.int .i64 0,.int .i64 0,.int .i64 0,.int .i64 0,.int .i64 0]):=by rw[m8 (n+1) I];exact bc (aN pL (ag (I:n+1<aT)))
 have LM:=aB
 obtain⟨j6,iC,zU,wD,qm⟩:=LM
 simp only[f']at j6 qm
 have ax3:∀y,aT<y->y<cq->True:=fun _ _ _=>trivial
 refine fG (aN MX.eq_1 w9) (cc l7 H1 (ag (I:n<cq)) (ag (I:n+1<cq))) ?_
 apply aF
 generalize av:qo _ _ _=q
 refine aMK i7.eq_1 av fun h=>?_
 subst h
 intro _
 have nx:∀{y:Nat} {c:bt},fH y=some c->c≠ .al false [.nil,.nil,.nil,.int .i64 0,.int .i64 0,.int .i64 0,.int .i64 0,.int .i64 0]->(n+1=y)=False:=fun J U=>eq_false fun e=>U (by rw[<-e,H1]at J;exact(Option.some.inj J).symm)
 have c6:=nx j6 aM
 have cO:=nx iC aM
 have fc:=nx zU aM
 have kR:=nx wD aM
 have ea:=nx qm (by simp[gn,fK])
 refine .all (ah _ _ X gF eZ cx aP b an lb ar dS I ⟨?_,?_,?_,?_,?_⟩ fun y ai=>?_)
 .exact bc (aN c6 j6)
 .exact bc (aN cO iC)
 .exact bc (aN fc zU)
 .exact bc (aN kR wD)
 .exact bc (cw ea qm @Int.zero_add)
 .have m1:(n+1=y)=False:=eq_false I
  have bP:fH y=g y:=by
   rw[m8 y I]
   have aD:bY y=g y:=by rw[c5 y I];exact bc (ag (I:y<n))
   have aJ:ba y=bY y:=cQ y I I I
   rw[<-aD,<-aJ]
   exact bc (ag (I:y<aT))
  rw[<-bP]
  exact bc m1
theorem aCK{d1:Int}(gP:rY 5 d1 1 0 0)(ap:bm g n)
 (ah:∀g' n' X gF eZ cx aP b an lb ar dS,n<=n'->g' X=some (.al false [.ptr an 0,.slice eZ 0 1 1 5,.int .i64 1,.slice gF 0 1 1 4])/\g' gF=some (.al false [.fn (.func 102) [] [.ptr cx 0],.fn (.func 104) [.ptr aP 0] [],.fn (.func 105) [] [.ptr cx 0],.int .i64 1])/\g' eZ=some (.al false [.int .i64 5,.int .i64 d1,.int .i64 1,.int .i64 0,.int .i64 0])/\g' cx=some (.al false [.ptr aP 0])/\g' aP=some (fK ⟨aP,d1,1⟩ an ar)->(∀y,y<n->g' y=g y)->K (.bN [.agg [.ptr an 0,.ptr ar 0,.ptr X 0,.int .i64 5,.int .i64 d1,.int .i64 1,.int .i64 0,.int .i64 0],.bool true]) g' n' (some ((f' an lb ar dS).make 4 b))):aR lM bA 7 [.agg [.int .i64 5,.int .i64 d1,.int .i64 1,.int .i64 0,.int .i64 0],.int .i64 5] g n none K:=by
 refine bE i7 fun N aF=>?_
 refine dl w9 ?_
 refine dO fun ku=>Tr ku fun bY bq an lb nb oa bp g4 J U c5=>?_
 intro dE
 have mm:=dE _ _ J
 have iZ:=dE _ _ U
 have jr:bY n=some (.al false [.int .i64 5,.int .i64 d1,.int .i64 1,.int .i64 0,.int .i64 0]):=by rw[c5 n I];exact dX
 have rm:bY (n+1)=some (.al false [.nil,.nil,.nil,.int .i64 0,.int .i64 0,.int .i64 0,.int .i64 0,.int .i64 0]):=by rw[c5 (n+1) I];exact dX
 refine JC (aN MW.eq_1 w9) ?_
 refine Q5 dE J U bp fun ba aT ar dS cB kI cQ=>?_
 intro dC
 have hP:ba n=some (.al false [.int .i64 5,.int .i64 d1,.int .i64 1,.int .i64 0,.int .i64 0]):=by rw[cQ n I I I];exact jr
 have pL:ba (n+1)=some (.al false [.nil,.nil,.nil,.int .i64 0,.int .i64 0,.int .i64 0,.int .i64 0,.int .i64 0]):=by rw[cQ (n+1) I I I];exact rm
 refine fG (aN MY.eq_1 w9) (cw hP (ag (I:n<aT)) (ag (I:n+1<aT))) ?_
 refine dO fun gB=>qj (aC0 (a:=f' an lb ar dS) (by simp[f']) (by simp[f']) gP gB (db:=aT) (ro:=false) (dX) fun fH cq X gF eZ cx aP b iJ aB m8=>?_)
 intro jN
 have l7:fH n=some (.al false [.int .i64 5,.int .i64 d1,.int .i64 1,.int .i64 0,.int .i64 0]):=by rw[m8 n I];exact bc (aN hP (ag (I:n<aT)))
 have H1:fH (n+1)=some (.al false [.nil,.nil,.nil,.int .i64 0,.int .i64 0,.int .i64 0,.int .i64 0,.int .i64 0]):=by rw[m8 (n+1) I];exact bc (aN pL (ag (I:n+1<aT)))
 have LM:=aB
 obtain⟨j6,iC,zU,wD,qm⟩:=LM
 simp only[f']at j6 qm
 have ax3:∀y,aT<y->y<cq->True:=fun _ _ _=>trivial
 refine fG (aN MX.eq_1 w9) (cc l7 H1 (ag (I:n<cq)) (ag (I:n+1<cq))) ?_
 apply aF
 generalize av:qo _ _ _=q
 refine aMK i7.eq_1 av fun h=>?_
 subst h
 intro _
 have nx:∀{y:Nat} {c:bt},fH y=some c->c≠ .al false [.nil,.nil,.nil,.int .i64 0,.int .i64 0,.int .i64 0,.int .i64 0,.int .i64 0]->(n+1=y)=False:=fun J U=>eq_false fun e=>U (by rw[<-e,H1]at J;exact(Option.some.inj J).symm)
 have c6:=nx j6 aM
 have cO:=nx iC aM
 have fc:=nx zU aM
 have kR:=nx wD aM
 have ea:=nx qm (by simp[gn,fK])
 refine .all (ah _ _ X gF eZ cx aP b an lb ar dS I ⟨?_,?_,?_,?_,?_⟩ fun y ai=>?_)
 .exact bc (aN c6 j6)
 .exact bc (aN cO iC)
 .exact bc (aN fc zU)
 .exact bc (aN kR wD)
 .exact bc (cw ea qm @Int.zero_add)
 .have m1:(n+1=y)=False:=eq_false I
  have bP:fH y=g y:=by
   rw[m8 y I]
   have aD:bY y=g y:=by rw[c5 y I];exact bc (ag (I:y<n))
   have aJ:ba y=bY y:=cQ y I I I
   rw[<-aD,<-aJ]
   exact bc (ag (I:y<aT))
  rw[<-bP]
  exact bc m1
end
section
variable{α:Type}{A:h3 α}{κ:fw}{x:hE κ}{kind:Int}{g:G}{n:Nat}{a:α}{K:cj α}{fl:List Nat}{aO:Nat}{b:bS κ}
theorem aEA{w:Int}(ah:∀n' r,n<=n'->0<=r/\r<5->K (.int .i64 r) g n' a):aR A bA 10 [.int .i64 w,.int .i64 5] g n a K:=by
 refine bE i10 fun N aF=>?_
 by_cases h:w.tmod 5<0
 .refine aL Of h ?_
  apply aF
  generalize av:qo _ _ _=q
  refine aMK i10.eq_1 av fun h=>?_
  subst h
  intro _
  have bx: -5<w.tmod 5:=by have:=Int.tmod_lt_of_pos (-w) (show(0:Int)<5 by decide);rw[Int.neg_tmod]at this;omega
  exact .all (ah _ _ I (by rw[wrap_i64 I I];omega))
 .refine aL Of h ?_
  apply aF
  generalize av:qo _ _ _=q
  refine aMK i10.eq_1 av fun h=>?_
  subst h
  intro _
  have bx:=Int.tmod_lt_of_pos w (show(0:Int)<5 by decide)
  exact .all (ah _ _ I I)
theorem aeP{db:Nat}{ro:Bool}{kind d1 d2 d3 d4 k:Int}(lB:0<=d1/\d1<=64)(uB:0<=d3/\d3<=32)(Gq:0<=k/\k<100000)(lT:g db=some (.al ro [.int .i64 kind,.int .i64 d1,.int .i64 d2,.int .i64 d3,.int .i64 d4]))(ah:∀n',n<=n'->K (.int .i64 (4*(k+1)*(10*d1+10*d3+70))) g n' a):aR A bA 8 [.slice db 0 1 1 5,.int .i64 k] g n a K:=by
 refine bE i8 fun N aF=>?_
 refine dl IW ?_
 have dA:IntKind.wrap .i64 (10*d1)=10*d1:=wrap_i64 I I
 have h1:IntKind.wrap .i64 (10*d3)=10*d3:=wrap_i64 I I
 have hD:IntKind.wrap .i64 (10*d1+10*d3)=10*d1+10*d3:=wrap_i64 I I
 have iQ:IntKind.wrap .i64 (10*d1+10*d3+70)=10*d1+10*d3+70:=wrap_i64 I I
 have iR:IntKind.wrap .i64 (k+1)=k+1:=wrap_i64 I I
 have iD:IntKind.wrap .i64 (4*(k+1))=4*(k+1):=wrap_i64 I I
 have aIY:IntKind.wrap .i64 (4*(k+1)*(10*d1+10*d3+70))=4*(k+1)*(10*d1+10*d3+70):=by
  have a5:0<=4*(k+1)*(10*d1+10*d3+70):=Int.mul_nonneg I I
  have J:4*(k+1)*(10*d1+10*d3+70)<=400000*2000:=Int.mul_le_mul I I I I
  exact wrap_i64 I I
 refine qp (fun eX t ba aT b7=>n<=aT/\b7=a/\ba=g/\aW t (.t 0)= .slice db 0 1 1 5/\aW t (.t 1)= .int .i64 k/\((eX=1/\aW t (.t 5)= .int .i64 70/\aW t (.t 6)= .int .i64 0)\/(eX=0/\aW t (.t 5)= .int .i64 (10*d1+10*d3+70)/\aW t (.t 6)= .int .i64 1))) 1 ⟨I,rfl,rfl,dW,dW,.inl ⟨rfl,dW,dW⟩⟩ ?_
 rintro eX t ba aT b7 ⟨az,rfl,rfl,cZ,aD,bd⟩
 rcases bd with⟨rfl,iX,m5⟩|⟨rfl,iX,m5⟩
 .have c1:((0:Int)<1)=True:=eq_true (by decide)
  have B5:IntKind.wrap .i64 ((0:Int)+1)=1:=rfl
  refine aL IW (bs cZ aD iX m5 lT @lK dA h1 hD iQ B5 @Int.lt_irrefl) ?_
  refine⟨0,I,I,.inr ⟨rfl,?_⟩⟩
  split
  .rfl
  .rw[show 10*d1+10*d3+70=70 by omega]
 .refine aL IW (ji cZ aD iX m5 lT @lK iR iD aIY @Int.lt_irrefl) ?_
  apply aF
  generalize av:qo _ _ _=q
  refine aMK i8.eq_1 av fun h=>?_
  subst h
  exact fun _=>.all (ah _ I)
structure hO where
 bK:V
 dz:V
 on:Bool
def hO.l(x:hO):List V:=[x.bK,x.dz,.int .u64 0,.bool x.on]
def gV(m:Nat->hO):List V:=(m 0).l++((m 1).l++((m 2).l++((m 3).l++(m 4).l)))
theorem Pk{m:Nat->hO}{i:Nat}(h:i<5):(gV m)[i*4]? =some (m i).bK:=by
 match i,h with
 |0,_=>rfl
 |1,_=>rfl
 |2,_=>rfl
 |3,_=>rfl
 |4,_=>rfl
theorem Pl{m:Nat->hO}{i:Nat}(h:i<5):(gV m)[i*4+1]? =some (m i).dz:=by
 match i,h with
 |0,_=>rfl
 |1,_=>rfl
 |2,_=>rfl
 |3,_=>rfl
 |4,_=>rfl
theorem I1{m:Nat->hO}{i:Nat}(h:i<5):(gV m)[i*4+3]? =some (.bool (m i).on):=by
 match i,h with
 |0,_=>rfl
 |1,_=>rfl
 |2,_=>rfl
 |3,_=>rfl
 |4,_=>rfl
def fx(m:Nat->hO)(i:Nat)(x:hO):Nat->hO:=fun j=>if j=i then x else m j
theorem Pm{m:Nat->hO}{i:Nat}(h:i<5)(v:V):(gV m).set (i*4) v=gV (fx m i {m i with bK:=v}):=by
 match i,h with
 |0,_=>rfl
 |1,_=>rfl
 |2,_=>rfl
 |3,_=>rfl
 |4,_=>rfl
theorem au8{m:Nat->hO}{i:Nat}(h:i<5)(v:V):(gV m).set (i*4+1) v=gV (fx m i {m i with dz:=v}):=by
 match i,h with
 |0,_=>rfl
 |1,_=>rfl
 |2,_=>rfl
 |3,_=>rfl
 |4,_=>rfl
theorem Cs{m:Nat->hO}{i:Nat}(h:i<5)(v:Bool):(gV m).set (i*4+3) (.bool v)=gV (fx m i {m i with on:=v}):=by
 match i,h with
 |0,_=>rfl
 |1,_=>rfl
 |2,_=>rfl
 |3,_=>rfl
 |4,_=>rfl
def sf(m:Nat->hO):Bool:=(m 0).on || ((m 1).on || ((m 2).on || ((m 3).on || (m 4).on)))
theorem xa{m:Nat->hO}:(gV m).length=20:=rfl
theorem avF{mk:Nat}{m:Nat->hO}(hm:g mk=some (.al false (gV m)))(ah:∀n',n<=n'->K (.bool (sf m)) g n' a):aR A bA 9 [.slice mk 0 5 5 4] g n a K:=by
 refine bE i9 fun N aF=>?_
 refine dl FE ?_
 refine qp (fun eX t ba aT b7=>∃i,eX=5-i/\i<=5/\n<=aT/\b7=a/\ba=g/\(∀j,j<i->(m j).on=false)/\aW t (.t 0)= .slice mk 0 5 5 4/\aW t (.t 3)= .int .i64 i) 5 ⟨0,rfl,I,I,rfl,rfl,I,dW,bD @Int.natCast_zero⟩ ?_
 rintro eX t ba aT b7 ⟨i,rfl,aC,az,rfl,rfl,dy,cZ,bP⟩
 by_cases bx:i<5
 .have c1:((i:Int)<5)=True:=eq_true I
  have c2:(0:Int)<=(i:Int):=I
  have dA:IntKind.wrap .i64 ((i:Int)+1)=((i+1:Nat):Int):=by rw[wrap_i64 I I];omega
  have aq:=I1 (m:=m) bx
  cases au:(m i).on with
  |true=>
   rw[au]at aq
   refine aL FE (e_ cZ bP c1 c2 hm aq @lK @Int.toNat_natCast) ?_
   apply aF
   generalize av:qo _ _ _=q
   refine aMK i9.eq_1 av fun h=>?_
   subst h
   have:sf m=true:=by
    match i,bx,au with
    |0,_,h=>simp[sf,h]
    |1,_,h=>simp[sf,h]
    |2,_,h=>simp[sf,h]
    |3,_,h=>simp[sf,h]
    |4,_,h=>simp[sf,h]
   rw[this]at ah
   exact fun _=>.all (ah _ I)
  |false=>
   rw[au]at aq
   refine aL FE (jO cZ bP c1 c2 hm aq dA @lK @Int.toNat_natCast) ?_
   refine⟨5- (i+1),I,i+1,rfl,I,I,fun j ax=>?_,rfl⟩
   rcases Nat.lt_or_ge j i with h|h
   .exact dy j h
   .have:j=i:=I
    rw[this];exact au
 .have cp:i=5:=I
  subst cp
  have c1:((5:Nat):Int)=5:=rfl
  have:sf m=false:=by simp[sf,dy 0 I,dy 1 I,dy 2 I,dy 3 I,dy 4 I]
  rw[this]at ah
  refine aL FE (eW cZ bP c1 @lK @Int.lt_irrefl) ?_
  apply aF
  generalize av:qo _ _ _=q
  refine aMK i9.eq_1 av fun h=>?_
  subst h
  exact fun _=>.all (ah _ I)
end
section
variable{α:Type}{A:h3 α}{κ:fw}{x:hE κ}{kind:Int}{g:G}{n:Nat}{a:α}{K:cj α}{fl:List Nat}{aO:Nat}{b:bS κ}
theorem aIq{lb o cap:Nat}{ro:Bool}{cells:List V}{xs:List Int}{v:Int}(aA:xs.length<100000)(aw:g lb=some (.al ro cells))(aj:∀j,j<xs.length->cells[o+j]? =some (.int .u64 (xs.getD j 0)))(ah:∀n',n<=n'->K (.bool (decide (v∈xs))) g n' a):aR A bA 18 [.slice lb o xs.length cap 1,.int .u64 v] g n a K:=by
 refine bE i18 fun N aF=>?_
 refine dl Fs ?_
 refine qp (fun eX t ba aT b7=>∃i,eX=xs.length-i/\i<=xs.length/\n<=aT/\b7=a/\ba=g/\(∀j,j<i->xs.getD j 0≠v)/\aW t (.t 0)= .slice lb o xs.length cap 1/\aW t (.t 1)= .int .u64 v/\aW t (.t 5)= .int .i64 i) xs.length ⟨0,I,I,I,rfl,rfl,I,dW,dW,bD @Int.natCast_zero⟩ ?_
 rintro eX t ba aT b7 ⟨i,rfl,aC,az,rfl,rfl,dy,cZ,aD,iX⟩
 by_cases bx:i<xs.length
 .have c1:((i:Int)< (xs.length:Int))=True:=eq_true I
  have c2:(0:Int)<=(i:Int):=I
  have dA:IntKind.wrap .i64 ((i:Int)+1)=((i+1:Nat):Int):=by rw[wrap_i64 I I];omega
  have aq:=aj i bx
  by_cases au:xs.getD i 0=v
  .have ss:(xs.getD i 0=v)=True:=eq_true au
   have aH:decide (v∈xs)=true:=by
    rw[<-au,List.getD_eq_getElem?_getD,List.getElem?_eq_getElem bx];simp
   rw[aH]at ah
   refine aL Fs (ji cZ aD iX c1 c2 aw aq ss @lK @Int.toNat_natCast) ?_
   apply aF
   generalize av:qo _ _ _=q
   refine aMK i18.eq_1 av fun h=>?_
   subst h
   exact fun _=>.all (ah _ I)
  .have ss:(xs.getD i 0=v)=False:=eq_false au
   refine aL Fs (kw cZ aD iX c1 c2 aw aq ss dA @lK @Int.toNat_natCast) ?_
   refine⟨xs.length- (i+1),I,i+1,rfl,I,I,fun j ax=>?_,rfl⟩
   rcases Nat.lt_or_ge j i with h|h
   .exact dy j h
   .have:j=i:=I
    rw[this];exact au
 .have cp:i=xs.length:=I
  subst cp
  have aH:decide (v∈xs)=false:=by
   refine decide_eq_false fun h=>?_
   obtain⟨j,ax,azZ⟩:=List.getElem_of_mem h
   exact dy j ax (by rw[List.getD_eq_getElem?_getD,List.getElem?_eq_getElem ax];simpa using azZ)
  rw[aH]at ah
  refine aL Fs (eW cZ aD iX @lK @Int.lt_irrefl) ?_
  apply aF
  generalize av:qo _ _ _=q
  refine aMK i18.eq_1 av fun h=>?_
  subst h
  exact fun _=>.all (ah _ I)
end
