/- Part of the proof of BatchOnce, for every input. -/
import Derived.Test.YtobokeclhlbnmaaGreatB24
set_option linter.all false
namespace Go.Proofs.Run
open Go Go.Abs
attribute [local irreducible] b9 cI cr cg aR
set_option maxRecDepth 100000
set_option maxHeartbeats 4000000
theorem aML{α:Type}{A:h3 α}{Γ:ph}{N:fp α}{E:Nat->fp α}{R:fp α}:It A Γ .ret N E R=fun t g n a=>R t g n a:=by
 funext t g n a;rw[aCn];exact aHr
theorem aEo{kv pv:V}{klen np:Nat}{kind d1 d2 d3 d4:Int}{g:G}{n:Nat}{K:cj (Option aE)}(ap:bm g n)(jI:ui .u64 g n n kv klen)(p3:ui .i64 g n n pv np)(ah:∀g' n' kP,n<=n'->K (.bool true) g' n' kP):
 aR lM bA 3 [.agg [.int .i64 kind,.int .i64 d1,.int .i64 d2,.int .i64 d3,.int .i64 d4],kv,pv] g n none K:=by
 refine bE i3 fun N aF=>?_
 have e0:=jI.cF
 have rK:=p3.cF
 refine dl (cc i3.eq_1 (ab aop.eq_1) (ab aam.eq_1) (ab aox.eq_1)) ?_
 refine dO fun dE=>Cz (kind:=kind) (d1:=d1) (d2:=d2) (d3:=d3) (d4:=d4) (db:=n+1) (ro:=false) dE (dX) fun ba aT c cB cQ hr g2=>?_
 intro dC
 have jr:ba n=some (.al false [.int .i64 kind,.int .i64 d1,.int .i64 d2,.int .i64 d3,.int .i64 d4]):=by rw[cQ n I];exact dX
 have bad:∀{t:T V} {g':G} {n':Nat} {kP:Option aE},n<=n'->b9 lM bA Nc (fun t g n a=>N t g n a) (fun x aMm aMn aMo aMp=>False) N t g' n' kP:=fun{t g' n' kP} az=>by
  refine dl (ab Nc.eq_1) ?_
  refine SK ?_
  intro aA
  refine dl aef.eq_1 ?_
  apply aF
  generalize av:qo _ _ _=q
  refine aMK i3.eq_1 av fun h=>?_
  subst h
  exact fun _=>.all (ah _ _ _ az)
 by_cases af:c=0
 .subst af
  have gP:=hr rfl
  by_cases dQ:kind=4\/kind=5
  .by_cases xK:np<=2000
   .have j6:(2000< (np:Int))=False:=eq_false I
    by_cases uG:klen=0
    .have iC:((klen:Int)=0)=True:=eq_true I
     rcases dQ with rfl|rfl
     .refine aL (aN wG.eq_1 (ab aaw.eq_1)) (eW jr e0 rK j6 iC) ?_
      rw[aML];exact bad (n':=aT) I
     .refine aL (aN wG.eq_1 (ab aaw.eq_1)) (eW jr e0 rK j6 iC) ?_
      rw[aML];exact bad (n':=aT) I
    .have iC:((klen:Int)=0)=False:=eq_false I
     rcases dQ with rfl|rfl
     .obtain⟨⟨ayL,ayM⟩,rfl,⟨aKw,JY⟩,rfl,lG⟩:=gP.1 rfl
      have cS:(aT=n)=False:=eq_false I
      have K6:im [V.nil,V.nil,V.int IntKind.u64 0,V.bool false] 5=gV (fun _=>⟨.nil,.nil,false⟩):=rfl
      refine aL (d' wG.eq_1 (ab aaw.eq_1) (ab aal.eq_1) (ab aoU.eq_1) (ab aak.eq_1) (ab ao1.eq_1)) (gq jr e0 rK j6 iC cS K6) ?_
      have gB:=dC.new (Nat.le_refl aT) (bt.al false (gV (fun _=>⟨.nil,.nil,false⟩)))
      refine ay5 gP gB fun g' n' X gF eZ cx aP b an lb ar dS oF aB p7=>?_
      obtain⟨qm,zV,zW,zX,zY⟩:=aB
      intro jN
      obtain⟨e,rfl⟩:∃e:Nat,d1=e:=⟨d1.toNat,I⟩
      obtain⟨pT,rfl⟩:∃pT:Nat,d3=pT:=⟨d3.toNat,I⟩
      obtain⟨iA,pC,jl,xW⟩:=aDL (e:=e) (b:=pT) I I
      have n4:g' aT=some (.al false (gV (fun _=>⟨.nil,.nil,false⟩))):=by rw[p7 aT I,bJ,if_pos rfl]
      have ta:∀y,y<aT->g' y=ba y:=fun y ai=>by rw[p7 y I,bJ,if_neg I]
      have n5:=(ta n I).trans jr
      have JW:∀y,y<n->g' y=g y:=fun y ai=>by
       rw[ta y I,cQ y I];exact bc (aN (ag (I:y<n)) (ag (I:y<n+1)))
      have dx:∀{eX:IntKind} {v:V} {len:Nat},ui eX g n n v len->ui eX g' aT n' v len:=fun h=>⟨h.cF,fun a5=>by
       obtain⟨b,o,cap,ro,cells,c6,cO,fc,kR,ea⟩:=h.ex a5
       exact⟨b,o,cap,ro,cells,c6,by rw[JW b fc];exact cO,I,I,ea⟩⟩
      have cy:(1:Int)<=(pT:Int)/\(pT:Int)<1000:=⟨I,I⟩
      refine aeL (κ:=rD ⟨aP,e,pT,1⟩ an ar cx [(X,.al false [.ptr an 0,.slice eZ 0 1 1 5,.int .i64 1,.slice gF 0 1 1 4]),(gF,.al false [.fn (.func 88) [] [.ptr cx 0],.fn (.func 90) [.ptr aP 0] [],.fn (.func 91) [] [.ptr cx 0],.int .i64 pT]),(eZ,.al false [.int .i64 4,.int .i64 e,.int .i64 1,.int .i64 pT,.int .i64 0])] cy) (W:=ayQ ⟨aP,e,pT,1⟩ an ar cx [(X,.al false [.ptr an 0,.slice eZ 0 1 1 5,.int .i64 1,.slice gF 0 1 1 4]),(gF,.al false [.fn (.func 88) [] [.ptr cx 0],.fn (.func 90) [.ptr aP 0] [],.fn (.func 91) [] [.ptr cx 0],.int .i64 pT]),(eZ,.al false [.int .i64 4,.int .i64 e,.int .i64 1,.int .i64 pT,.int .i64 0])] cy)
       (x:=⟨X,gF,.slice eZ 0 1 1 5,1,.fn (.func 90) [.ptr aP 0] [],by simp[rD],by simp[rD],⟨by show(0:Int)<=pT;omega,by show(pT:Int)<1000;omega⟩⟩) (A0:=aT) (B0:=n) (kv:=kv) (pv:=pv) (klen:=klen) (np:=np) (z:=⟨fun _=>[],ez (fun _=>.none) 1 .root,fun _=>0,fun _=>0,0,0,List.replicate (2+3*(pT:Int)).toNat 0⟩) (.inl rfl) ⟨⟨I,I⟩,⟨I,I⟩⟩ ⟨eZ,e,pT,rfl,rfl,by simp[rD]⟩ (bD rD.eq_1) (dW) (dW) (dW) (dW) (bD rD.eq_1) jN n4 n5 (fun q av=>?_) (fun q av eq=>?_) (dx jI) (dx p3) I xK (hp.rQ (ev.rQ ⟨I,I⟩ cy an lb ar dS b)) iA pC jl xW fun t' ax0 Hh kP c6 cO=>?_
      .simp only[rD,jJ,List.cons_append,List.nil_append,List.mem_cons,List.not_mem_nil,or_false]at av
       rcases av with rfl|rfl|rfl|rfl|rfl
       .exact zY
       .exact zX
       .exact qm
       .exact zV
       .exact zW
      .simp only[rD,jJ,List.cons_append,List.nil_append,List.mem_cons,List.not_mem_nil,or_false]at av
       rcases av with rfl|rfl|rfl|rfl|rfl<;>simp only at eq<;>subst eq
       .rw[n4]at zY;simp[gV,hO.l,gn]at zY
       .rw[n4]at zX;simp[gV,hO.l]at zX
       .rw[n4]at qm;simp[gV,hO.l]at qm
       .rw[n4]at zV;simp[gV,hO.l]at zV
       .rw[n4]at zW;simp[gV,hO.l]at zW
      .apply aF
       generalize av:qo _ _ _=q
       refine aMK (oH i3.eq_1 cO) av fun h=>?_
       subst h
       exact fun _=>.all (ah _ _ _ I)
     .obtain⟨⟨ayL,ayM⟩,rfl,rfl,rfl⟩:=gP.2 rfl
      have cS:(aT=n)=False:=eq_false I
      have K6:im [V.nil,V.nil,V.int IntKind.u64 0,V.bool false] 5=gV (fun _=>⟨.nil,.nil,false⟩):=rfl
      refine aL (d' wG.eq_1 (ab aaw.eq_1) (ab aal.eq_1) (ab aoU.eq_1) (ab aak.eq_1) (ab ao1.eq_1)) (gq jr e0 rK j6 iC cS K6) ?_
      have gB:=dC.new (Nat.le_refl aT) (bt.al false (gV (fun _=>⟨.nil,.nil,false⟩)))
      refine aCK gP gB fun g' n' X gF eZ cx aP b an lb ar dS oF aB p7=>?_
      obtain⟨qm,zV,zW,zX,zY⟩:=aB
      intro jN
      obtain⟨e,rfl⟩:∃e:Nat,d1=e:=⟨d1.toNat,I⟩
      obtain⟨iA,pC,jl,xW⟩:=aDM (e:=e) I
      have n4:g' aT=some (.al false (gV (fun _=>⟨.nil,.nil,false⟩))):=by rw[p7 aT I,bJ,if_pos rfl]
      have ta:∀y,y<aT->g' y=ba y:=fun y ai=>by rw[p7 y I,bJ,if_neg I]
      have n5:=(ta n I).trans jr
      have JW:∀y,y<n->g' y=g y:=fun y ai=>by
       rw[ta y I,cQ y I];exact bc (aN (ag (I:y<n)) (ag (I:y<n+1)))
      have dx:∀{eX:IntKind} {v:V} {len:Nat},ui eX g n n v len->ui eX g' aT n' v len:=fun h=>⟨h.cF,fun a5=>by
       obtain⟨b,o,cap,ro,cells,c6,cO,fc,kR,ea⟩:=h.ex a5
       exact⟨b,o,cap,ro,cells,c6,by rw[JW b fc];exact cO,I,I,ea⟩⟩
      refine aeL (κ:=qh ⟨aP,e,1⟩ an ar cx [(X,.al false [.ptr an 0,.slice eZ 0 1 1 5,.int .i64 1,.slice gF 0 1 1 4]),(gF,.al false [.fn (.func 102) [] [.ptr cx 0],.fn (.func 104) [.ptr aP 0] [],.fn (.func 105) [] [.ptr cx 0],.int .i64 1]),(eZ,.al false [.int .i64 5,.int .i64 e,.int .i64 1,.int .i64 0,.int .i64 0])]) (W:=aCF ⟨aP,e,1⟩ an ar cx [(X,.al false [.ptr an 0,.slice eZ 0 1 1 5,.int .i64 1,.slice gF 0 1 1 4]),(gF,.al false [.fn (.func 102) [] [.ptr cx 0],.fn (.func 104) [.ptr aP 0] [],.fn (.func 105) [] [.ptr cx 0],.int .i64 1]),(eZ,.al false [.int .i64 5,.int .i64 e,.int .i64 1,.int .i64 0,.int .i64 0])])
       (x:=⟨X,gF,.slice eZ 0 1 1 5,1,.fn (.func 104) [.ptr aP 0] [],by simp[qh],by simp[qh],⟨by show(0:Int)<=1;omega,by show(1:Int)<1000;omega⟩⟩) (A0:=aT) (B0:=n) (kv:=kv) (pv:=pv) (klen:=klen) (np:=np) (z:=⟨[],[],ez (fun _=>.none) 1 .root,0,0,0⟩) (.inr rfl) ⟨⟨I,I⟩,⟨I,I⟩⟩ ⟨eZ,e,0,rfl,rfl,by simp[qh]⟩ (bD qh.eq_1) (dW) (dW) (dW) (dW) (bD qh.eq_1) jN n4 n5 (fun q av=>?_) (fun q av eq=>?_) (dx jI) (dx p3) I xK (hp.rQ (fe.rQ ⟨I,I⟩ an lb ar dS b)) iA pC jl xW fun t' ax0 Hh kP c6 cO=>?_
      .simp only[qh,lJ,List.cons_append,List.nil_append,List.mem_cons,List.not_mem_nil,or_false]at av
       rcases av with rfl|rfl|rfl|rfl|rfl
       .exact zY
       .exact zX
       .exact qm
       .exact zV
       .exact zW
      .simp only[qh,lJ,List.cons_append,List.nil_append,List.mem_cons,List.not_mem_nil,or_false]at av
       rcases av with rfl|rfl|rfl|rfl|rfl<;>simp only at eq<;>subst eq
       .rw[n4]at zY;simp[gV,hO.l,fK]at zY
       .rw[n4]at zX;simp[gV,hO.l]at zX
       .rw[n4]at qm;simp[gV,hO.l]at qm
       .rw[n4]at zV;simp[gV,hO.l]at zV
       .rw[n4]at zW;simp[gV,hO.l]at zW
      .apply aF
       generalize av:qo _ _ _=q
       refine aMK (oH i3.eq_1 cO) av fun h=>?_
       subst h
       exact fun _=>.all (ah _ _ _ I)
   .have j6:(2000< (np:Int))=True:=eq_true I
    rcases dQ with rfl|rfl
    .refine aL (aN wG.eq_1 (ab aaw.eq_1)) (cc jr e0 rK j6) ?_
     rw[aML];exact bad (n':=aT) I
    .refine aL (aN wG.eq_1 (ab aaw.eq_1)) (cc jr e0 rK j6) ?_
     rw[aML];exact bad (n':=aT) I
  .have kR:(kind != 4)=true:=by simp;exact fun e=>dQ (.inl e)
   have ea:(kind != 5)=true:=by simp;exact fun e=>dQ (.inr e)
   refine aL (aN wG.eq_1 (ab aaw.eq_1)) (eW jr e0 rK kR ea) ?_
   rw[aML];exact bad (n':=aT) I
 .have dd:(c != 0)=true:=by simp;exact af
  refine aL (aN wG.eq_1 (ab aaw.eq_1)) (cc jr dd e0 rK) ?_
  rw[aML];exact bad (n':=aT) I
