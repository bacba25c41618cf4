/- Part of the proof of BatchOnce, for every input. -/
import Derived.Test.YtobokeclhlbnmaaGreatA5
set_option linter.all false
namespace Go.Abs
section
structure ph where
 m:iV
 r3:Call
 jn:FuncId->Option bn
variable(Γ:ph)
def mZ(f:FuncId)(args:List V)(σ:H)(Q:V->H->Prop):Prop:=
 ∃v σ',(∃bR d0,∀n,bR<=n->∀d,d0<=d->ur Γ.m Γ.r3 Γ.jn n d f args σ=some (.ret v σ'))/\Q v σ'
theorem mZ.mono{Γ:ph}{f:FuncId}{args:List V}{σ:H}{Q Q':V->H->Prop}(h:mZ Γ f args σ Q)(av:∀v σ',Q v σ'->Q' v σ'):mZ Γ f args σ Q':=by
 obtain⟨v,σ',J,U⟩:=h
 exact⟨v,σ',J,av _ _ U⟩
def gE(x:X)(K:V->H->Prop)(t:T V)(σ:H):Prop:=
 match x with
 | .l x=>match gX (aW t) x with|some v=>K v σ|none=>False
 | .a x=>match nT (aW t) x with|some p=>K (p.2 σ.next) (σ.new p.1)|none=>False
 | .load n agg a=>match oh σ n agg (aW t a)with|some v=>K v σ|none=>False
 | .call f args=>mZ Γ f (args.map (aW t)) σ K
 | .pr f args=>match aW t f with
   | .fn (.func f) first cap=>mZ Γ f (first++args.map (aW t)++cap) σ K
   |_=>False
 | .invoke name recv args=>match aW t recv with
   | .iface fk v=>match uS Γ.m σ fk v name with
     |some p=>mZ Γ p.1 (p.2::args.map (aW t)) σ K
     |none=>False
   |_=>False
 |x=>match step Γ.m σ (aW t) x with
  |some (.val v σ')=>K v σ'
  |_=>False
def my:List Op->(T V->H->Prop)->T V->H->Prop
 |[],N,t,σ=>N t σ
 |o::r,N,t,σ=>
  match o.g with
  |none=>gE Γ o.x (fun v σ'=>my r N (dp t o.dst v) σ') t σ
  |some (j,b)=>match aW t (.t j)with
   | .bool c=>if c=b then gE Γ o.x (fun v σ'=>my r N (dp t o.dst v) σ') t σ else my r N (dp t o.dst .undef) σ
   | .any=>False
   |_=>my r N (dp t o.dst .undef) σ
def iW(base:Nat):List dg->(T V->H->Prop)->T V->H->List H->Prop
 |[],N,t,σ,_=>N t σ
 |i::r,N,t,σ,cs=>
  if i.f_=true then
   match i.o.g with
   |none=>gE Γ i.o.x (fun v σ'=>iW base r N (dp t i.o.dst v) σ' (σ'::cs)) t σ
   |some (j,b)=>match aW t (.t j)with
    | .bool c=>if c=b then gE Γ i.o.x (fun v σ'=>iW base r N (dp t i.o.dst v) σ' (σ'::cs)) t σ else iW base r N (dp t i.o.dst .undef) σ (σ::cs)
    | .any=>False
    |_=>iW base r N (dp t i.o.dst .undef) σ (σ::cs)
  else match qH base i t σ cs with
   |some p=>iW base r N p.1 p.2 cs
   |none=>False
def ka:C->(T V->H->Prop)->(Nat->T V->H->Prop)->(T V->H->Prop)->T V->H->Prop
 | .skip,N,_,_,t,σ=>N t σ
 | .ao l,N,_,_,t,σ=>my Γ l N t σ
 | .draw l,N,_,_,t,σ=>iW Γ σ.next l N t (σ.room l.length) [σ.room l.length]
 | .seq a b,N,E,R,t,σ=>ka a (fun t σ=>ka b N E R t σ) E R t σ
 | .cond c a b,N,E,R,t,σ=>match aW t c with
   | .bool x=>if x=true then ka a N E R t σ else ka b N E R t σ
   |_=>False
 | .block id c,N,E,R,t,σ=>ka c N (fun i t σ=>if i=id then N t σ else E i t σ) R t σ
 | .loop c,N,E,R,t,σ=>∃Inv:Nat->T V->H->Prop,(∃n,Inv n t σ)/\∀n t σ,Inv n t σ->ka c (fun t σ=>∃n',n'<n/\Inv n' t σ) E R t σ
 | .exit id,_,E,_,t,σ=>E id t σ
 | .ret,_,_,R,t,σ=>R t σ
 | .oz _ _ _,_,_,_,_,_=>False
variable{Γ}
def cl(Γ:ph)(n d:Nat):Call:=ur Γ.m Γ.r3 Γ.jn n d
theorem aLP{m:iV}{σ:H}{ρ:aG->V}{x:X}{f:FuncId}{args:List V}{σ':H}(h:step m σ ρ x=some (.enter f args σ')):σ'=σ:=by
 cases x<;>simp only[step]at h
 case call=>simp at h;exact h.2.2.symm
 case pr=>
  split at h
  .simp at h;exact h.2.2.symm
  .simp at h
 case invoke=>
  split at h
  .split at h
   .simp at h;exact h.2.2.symm
   .simp at h
  .simp at h
 all_goals(exfalso;(try(repeat' split at h))<;>simp at h)
theorem asZ{x:X}{K:V->H->Prop}{t:T V}{σ:H}(h:gE Γ x K t σ)(dst:Option Nat):
 ∃v σ',K v σ'/\∃bR d0,∀n,bR<=n->∀d,d0<=d->(match step Γ.m σ (aW t) x with
  |some (.val v σ')=>some (kl.ok (dp t dst v) σ')
  |some (.enter f args σ')=>(cl Γ n d f args σ').map (ll.gb t dst)
  |some (.fN v σ')=>some (.fN v t σ')
  |none=>none)=some (.ok (dp t dst v) σ'):=by
 cases x
 case l x=>
  simp only[gE]at h
  split at h
  .rename_i v hv
   exact⟨v,σ,h,0,0,fun n _ d _=>by simp[step,hv]⟩
  .exact h.elim
 case a x=>
  simp only[gE]at h
  split at h
  .rename_i v hv
   exact⟨_,_,h,0,0,fun n _ d _=>by simp[step,hv]⟩
  .exact h.elim
 case load n agg a=>
  simp only[gE]at h
  split at h
  .rename_i v hv
   exact⟨_,_,h,0,0,fun n _ d _=>by simp[step,hv]⟩
  .exact h.elim
 case call f args=>
  simp only[gE]at h
  obtain⟨v,σ',⟨bR,d0,J⟩,U⟩:=h
  refine⟨v,σ',U,bR,d0,fun n az d aH=>?_⟩
  simp[step,cl,J n az d aH,ll.gb]
 case pr f args=>
  simp only[gE]at h
  split at h
  .rename_i g a c aV
   obtain⟨v,σ',⟨bR,d0,J⟩,U⟩:=h
   refine⟨v,σ',U,bR,d0,fun n az d aH=>?_⟩
   have aq:=J n az d aH
   simp only[step,aV]
   simp only[cl,aq,Option.map_some,ll.gb]
  .exact h.elim
 case invoke name recv args=>
  simp only[gE]at h
  split at h
  .rename_i fk nV hv
   split at h
   .rename_i p aB
    obtain⟨v,σ',⟨bR,d0,J⟩,U⟩:=h
    refine⟨v,σ',U,bR,d0,fun n az d aH=>?_⟩
    have aq:=J n az d aH
    simp only[step,hv,aB]
    simp only[cl,aq,Option.map_some,ll.gb]
   .exact h.elim
  .exact h.elim
 all_goals
  simp only[gE]at h
  split at h
  .rename_i v σ' aa
   exact⟨v,σ',h,0,0,fun n _ d _=>by rw[aa]⟩
  .exact h.elim
theorem QJ{o:Op}{t:T V}{σ:H}{K:V->H->Prop}(aw:o.g=none)(h:gE Γ o.x K t σ):
 ∃v σ',K v σ'/\∃bR d0,∀n,bR<=n->∀d,d0<=d->km Γ.m (cl Γ n d) o t σ=some (.ok (dp t o.dst v) σ'):=by
 obtain⟨v,σ',J,bR,d0,U⟩:=asZ h o.dst
 refine⟨v,σ',J,bR,d0,fun n az d aH=>?_⟩
 have aq:=U n az d aH
 simp only[km,aw,pf,nX,if_true]
 exact aq
theorem QK{o:Op}{t:T V}{σ:H}{K:V->H->Prop}{j:Nat}{b:Bool}(aw:o.g=some (j,b))(af:aW t (.t j)= .bool b)(h:gE Γ o.x K t σ):
 ∃v σ',K v σ'/\∃bR d0,∀n,bR<=n->∀d,d0<=d->km Γ.m (cl Γ n d) o t σ=some (.ok (dp t o.dst v) σ'):=by
 obtain⟨v,σ',J,bR,d0,U⟩:=asZ h o.dst
 refine⟨v,σ',J,bR,d0,fun n az d aH=>?_⟩
 have aq:=U n az d aH
 simp only[km,aw,pf,nX,af,V.known,Bool.not_true,beq_self_eq_true,if_true]
 exact aq
theorem QH{o:Op}{t:T V}{σ:H}{j:Nat}{b c:Bool}(aw:o.g=some (j,b))(af:aW t (.t j)= .bool c)(bp:¬c=b)(call:Call):
 km Γ.m call o t σ=some (.ok (dp t o.dst .undef) σ):=by
 simp only[km,aw,pf,nX,af,V.known]
 simp[bp]
theorem QI{o:Op}{t:T V}{σ:H}{j:Nat}{b:Bool}(aw:o.g=some (j,b))(J:∀c,aW t (.t j)= .bool c->False)(U:aW t (.t j)= .any->False)(call:Call):
 km Γ.m call o t σ=some (.ok (dp t o.dst .undef) σ):=by
 have ah:(aW t (.t j)).known=true:=by
  cases hv:aW t (.t j)<;>first|rfl|exact(U hv).elim
 have hw:nX t (some (j,b))=false:=by
  simp only[nX]
 simp[km,aw,pf,ah,hw]
theorem asQ:∀(l:List Op) {N:T V->H->Prop} {t:T V} {σ:H},my Γ l N t σ->
 ∃t' σ',N t' σ'/\∃bR d0,∀n,bR<=n->∀d,d0<=d->vA Γ.m (cl Γ n d) l t σ=some (.ok t' σ')
 |[],N,t,σ,h=>⟨t,σ,h,0,0,fun _ _ _ _=>rfl⟩
 |o::r,N,t,σ,h=>by
  have go:∀{t1:T V} {σ1:H},my Γ r N t1 σ1->(∃bR d0,∀n,bR<=n->∀d,d0<=d->km Γ.m (cl Γ n d) o t σ=some (.ok t1 σ1))->
   ∃t' σ',N t' σ'/\∃bR d0,∀n,bR<=n->∀d,d0<=d->vA Γ.m (cl Γ n d) (o::r) t σ=some (.ok t' σ'):=by
   intro t1 σ1 J ⟨bR,d0,U⟩
   obtain⟨t',σ',aF,bq,d1,aq⟩:=asQ r J
   refine⟨t',σ',aF,max bR bq,max d0 d1,fun n az d aH=>?_⟩
   simp only[vA,U n I d I]
   exact aq n I d I
  simp only[my]at h
  split at h
  .rename_i aw
   obtain⟨v,σ',J,U⟩:=QJ aw h
   exact go J U
  .rename_i j b aw
   split at h
   .rename_i c af
    split at h
    .rename_i e;subst e
     obtain⟨v,σ',J,U⟩:=QK aw af h
     exact go J U
    .rename_i bp
     exact go h ⟨0,0,fun _ _ _ _=>QH aw af bp _⟩
   .exact h.elim
   .rename_i J U
    exact go h ⟨0,0,fun _ _ _ _=>QI aw J U _⟩
theorem NN(base:Nat):∀(l:List dg) {N:T V->H->Prop} {t:T V} {σ:H} {cs:List H},iW Γ base l N t σ cs->
 ∃t' σ',N t' σ'/\∃bR d0,∀n,bR<=n->∀d,d0<=d->sm Γ.m (cl Γ n d) base l t σ cs=some (.ok t' σ')
 |[],N,t,σ,cs,h=>⟨t,σ,h,0,0,fun _ _ _ _=>rfl⟩
 |i::r,N,t,σ,cs,h=>by
  have go:∀{t1:T V} {σ1:H},i.f_=true->iW Γ base r N t1 σ1 (σ1::cs)->(∃bR d0,∀n,bR<=n->∀d,d0<=d->km Γ.m (cl Γ n d) i.o t σ=some (.ok t1 σ1))->
   ∃t' σ',N t' σ'/\∃bR d0,∀n,bR<=n->∀d,d0<=d->sm Γ.m (cl Γ n d) base (i::r) t σ cs=some (.ok t' σ'):=by
   intro t1 σ1 bd J ⟨bR,d0,U⟩
   obtain⟨t',σ',aF,bq,d1,aq⟩:=NN base r J
   refine⟨t',σ',aF,max bR bq,max d0 d1,fun n az d aH=>?_⟩
   simp only[sm,bd,if_true,U n I d I]
   exact aq n I d I
  simp only[iW]at h
  split at h
  .rename_i bd
   split at h
   .rename_i aw
    obtain⟨v,σ',J,U⟩:=QJ aw h
    exact go bd J U
   .rename_i j b aw
    split at h
    .rename_i c af
     split at h
     .rename_i e;subst e
      obtain⟨v,σ',J,U⟩:=QK aw af h
      exact go bd J U
     .rename_i bp
      exact go bd h ⟨0,0,fun _ _ _ _=>QH aw af bp _⟩
    .exact h.elim
    .rename_i J U
     exact go bd h ⟨0,0,fun _ _ _ _=>QI aw J U _⟩
  .rename_i bd
   split at h
   .rename_i p aB
    obtain⟨t',σ',aF,bq,d1,aq⟩:=NN base r h
    refine⟨t',σ',aF,bq,d1,fun n az d aH=>?_⟩
    simp only[sm,bd,aB]
    exact aq n az d aH
   .exact h.elim
def N_(N:T V->H->Prop)(E:Nat->T V->H->Prop)(R:T V->H->Prop)(o:Out):Prop:=
 o.ds=[]/\match o.x with
  | .normal=>N o.t o.σ
  | .exit i=>E i o.t o.σ
  | .ret=>R o.t o.σ
  | .fN _=>False
def atd(Γ:ph)(c:C)(t:T V)(σ:H)(o:Out):Prop:=∃bR d0,∀n,bR<=n->∀d,d0<=d->hT Γ.m (cl Γ n d) n c t [] σ=some o
theorem Ae:∀(c:C) {N:T V->H->Prop} {E:Nat->T V->H->Prop} {R:T V->H->Prop} {t:T V} {σ:H},ka Γ c N E R t σ->∃o,N_ N E R o/\atd Γ c t σ o
 | .skip,N,E,R,t,σ,h=>⟨_,⟨rfl,h⟩,0,0,fun _ _ _ _=>rfl⟩
 | .ao l,N,E,R,t,σ,h=>by
   obtain⟨t',σ',aF,bR,d0,J⟩:=asQ l h
   exact⟨⟨.normal,t',[],σ'⟩,⟨rfl,aF⟩,bR,d0,fun n az d aH=>by simp only[hT,J n az d aH,Option.map_some,kl.out]⟩
 | .draw l,N,E,R,t,σ,h=>by
   obtain⟨t',σ',aF,bR,d0,J⟩:=NN σ.next l h
   exact⟨⟨.normal,t',[],σ'⟩,⟨rfl,aF⟩,bR,d0,fun n az d aH=>by simp only[hT,J n az d aH,Option.map_some,kl.Uc]⟩
 | .seq a b,N,E,R,t,σ,h=>by
   obtain⟨⟨x,t1,Jy,σ1⟩,⟨lB,au⟩,bR,d0,J⟩:=Ae a h
   simp only at lB au
   subst lB
   cases x with
   |normal=>
    obtain⟨hY,qV,bq,d1,U⟩:=Ae b au
    exact⟨hY,qV,max bR bq,max d0 d1,fun n az d aH=>by simp only[hT,J n I d I];exact U n I d I⟩
   |exit i=>exact⟨⟨.exit i,t1,[],σ1⟩,⟨rfl,au⟩,bR,d0,fun n az d aH=>by simp only[hT,J n az d aH]⟩
   |ret=>exact⟨⟨.ret,t1,[],σ1⟩,⟨rfl,au⟩,bR,d0,fun n az d aH=>by simp only[hT,J n az d aH]⟩
   |fN v=>exact au.elim
 | .cond c a b,N,E,R,t,σ,h=>by
   simp only[ka]at h
   split at h
   .rename_i x aj
    split at h
    .rename_i e;subst e
     obtain⟨o,au,bR,d0,J⟩:=Ae a h
     exact⟨o,au,bR,d0,fun n az d aH=>by simp only[hT,aj,if_true];exact J n az d aH⟩
    .rename_i e
     obtain⟨o,au,bR,d0,J⟩:=Ae b h
     exact⟨o,au,bR,d0,fun n az d aH=>by simp only[hT,aj,e];exact J n az d aH⟩
   .exact h.elim
 | .block id c,N,E,R,t,σ,h=>by
   obtain⟨⟨x,t1,Jy,σ1⟩,⟨lB,au⟩,bR,d0,J⟩:=Ae c h
   simp only at lB au
   subst lB
   cases x with
   |normal=>exact⟨⟨.normal,t1,[],σ1⟩,⟨rfl,au⟩,bR,d0,fun n az d aH=>by simp only[hT,J n az d aH]⟩
   |exit i=>
    simp only at au
    split at au
    .rename_i e
     exact⟨⟨.normal,t1,[],σ1⟩,⟨rfl,au⟩,bR,d0,fun n az d aH=>by simp only[hT,J n az d aH,e,if_true]⟩
    .rename_i e
     exact⟨⟨.exit i,t1,[],σ1⟩,⟨rfl,au⟩,bR,d0,fun n az d aH=>by simp only[hT,J n az d aH,e,if_false]⟩
   |ret=>exact⟨⟨.ret,t1,[],σ1⟩,⟨rfl,au⟩,bR,d0,fun n az d aH=>by simp only[hT,J n az d aH]⟩
   |fN v=>exact au.elim
 | .loop c,N,E,R,t,σ,h=>by
   obtain⟨Inv,⟨k,ah⟩,od⟩:=h
   have key:∀k t σ,Inv k t σ->∃o,N_ N E R o/\∃bR d0,∀n,bR<=n->∀d,d0<=d->∀f,bR<=f->iter (hT Γ.m (cl Γ n d) n c) f t [] σ=some o:=by
    intro k
    induction k using Nat.strongRecOn with
    |ind k c0=>
     intro t σ aC
     obtain⟨⟨x,t1,Jy,σ1⟩,⟨lB,au⟩,bR,d0,J⟩:=Ae c (od k t σ aC)
     simp only at lB au
     subst lB
     cases x with
     |normal=>
      obtain⟨a9,gg,m9⟩:=au
      obtain⟨hY,qV,bq,d1,U⟩:=c0 a9 gg t1 σ1 m9
      refine⟨hY,qV,max bR bq+1,max d0 d1,fun n az d aH f aV=>?_⟩
      obtain⟨g,rfl⟩:∃g,f=g+1:=⟨f-1,I⟩
      simp only[iter,J n I d I]
      exact U n I d I g I
     |exit i=>
      refine⟨⟨.exit i,t1,[],σ1⟩,⟨rfl,au⟩,bR+1,d0,fun n az d aH f aV=>?_⟩
      obtain⟨g,rfl⟩:∃g,f=g+1:=⟨f-1,I⟩
      simp only[iter,J n I d I]
     |ret=>
      refine⟨⟨.ret,t1,[],σ1⟩,⟨rfl,au⟩,bR+1,d0,fun n az d aH f aV=>?_⟩
      obtain⟨g,rfl⟩:∃g,f=g+1:=⟨f-1,I⟩
      simp only[iter,J n I d I]
     |fN v=>exact au.elim
   obtain⟨o,au,bR,d0,J⟩:=key k t σ ah
   exact⟨o,au,bR,d0,fun n az d aH=>by simp only[hT];exact J n az d aH n az⟩
 | .exit id,N,E,R,t,σ,h=>⟨_,⟨rfl,h⟩,0,0,fun _ _ _ _=>rfl⟩
 | .ret,N,E,R,t,σ,h=>⟨_,⟨rfl,h⟩,0,0,fun _ _ _ _=>rfl⟩
 | .oz _ _ _,_,_,_,_,_,h=>h.elim
def At(fP:bn)(Q:V->H->Prop)(t:T V)(σ:H):Prop:=match pG t σ fP.j8 with
 |some l=>Q (q7 l) σ
 |none=>False
theorem Q3{f:FuncId}{fP:bn}{args:List V}{σ:H}{Q:V->H->Prop}(aV:Γ.jn f=some fP)(ak:fP.wH=none)(aa:Γ.r3 f args σ=none)
 (h:ka Γ fP.body (At fP Q) (fun _ _ _=>False) (At fP Q) (T.ofList .e 0 args) σ):mZ Γ f args σ Q:=by
 obtain⟨⟨x,t1,Jy,σ1⟩,⟨lB,au⟩,bR,d0,J⟩:=Ae _ h
 simp only at lB au
 subst lB
 have fin:At fP Q t1 σ1->x= .normal\/x= .ret->mZ Γ f args σ Q:=by
  intro av aj
  unfold At at av
  split at av
  .rename_i l aA
   refine⟨q7 l,σ1,⟨bR,d0+1,fun n az d aH=>?_⟩,av⟩
   obtain⟨g,rfl⟩:∃g,d=g+1:=⟨d-1,I⟩
   have U:=J n az g I
   simp only[cl]at U
   simp only[ur,aa,aV,ak]
   simp only[Option.isSome_none,U]
   rcases aj with rfl|rfl<;>simp[vj.mode,BW,aA]
  .exact av.elim
 cases x with
 |normal=>exact fin au (.inl rfl)
 |exit i=>exact au.elim
 |ret=>exact fin au (.inr rfl)
 |fN v=>exact au.elim
theorem F5{f:FuncId}{args:List V}{σ:H}{Q:V->H->Prop}{v:V}{σ':H}(aa:Γ.r3 f args σ=some (.ret v σ'))(av:Q v σ'):mZ Γ f args σ Q:=by
 refine⟨v,σ',⟨0,1,fun n _ d aH=>?_⟩,av⟩
 obtain⟨g,rfl⟩:∃g,d=g+1:=⟨d-1,I⟩
 simp only[ur,aa]
end
section
theorem axx(t:T V)(d:Nat)(v:V)(i:Nat):aW (dp t (some d) v) (.t i)=if d=i then v else aW t (.t i):=by
 simp only[aW,dp,T.ux]
 split
 .rename_i h;simp
 .rfl
theorem axw(t:T V)(v:V)(x:aG):aW (dp t none v) x=aW t x:=rfl
theorem axv(t:T V)(v:V):aW t (.c v)=v:=rfl
theorem axu(l:List V)(i:Nat):aW (T.ofList .e 0 l) (.t i)=(l[i]?).getD .any:=by
 simp only[aW,T.uw]
 split
 .rename_i h;simp
 .rename_i h
  have:l[i]? =none:=by
   rw[List.getElem?_eq_none_iff];omega
  rw[this];simp[T.get]
def H.fresh(σ:H):Prop:=∀b B,σ.get b=some B->b<σ.next
theorem k1(σ:H)(b:Nat)(B:jq)(b':Nat):(σ.set b B).get b'=if b=b' then some B else σ.get b':=by
 simp only[H.get,H.set,T.ux]
theorem pZ(σ:H)(B:jq)(b':Nat):(σ.new B).get b'=if σ.next=b' then some B else σ.get b':=by
 simp only[H.get,H.new,T.ux]
theorem xr(σ:H)(b b':Nat):(σ.kill b).get b'=if b=b' then none else σ.get b':=by
 simp only[H.get,H.kill,T.ux]
theorem F4(σ:H)(n b:Nat):(σ.room n).get b=σ.get b:=rfl
theorem Ty(σ:H)(b:Nat)(B:jq):(σ.set b B).next=σ.next:=rfl
theorem LY(σ:H)(B:jq):(σ.new B).next=σ.next+1:=rfl
theorem LX(σ:H)(b:Nat):(σ.kill b).next=σ.next:=rfl
theorem LZ(σ:H)(n:Nat):(σ.room n).next=σ.next+n:=rfl
theorem QZ{σ:H}(h:σ.fresh)(B:jq):(σ.new B).fresh:=by
 intro b lh ad
 rw[pZ]at ad
 rw[LY]
 split at ad
 .omega
 .have:=h _ _ ad;omega
theorem Q1{σ:H}(h:σ.fresh){b:Nat}(ad:b<σ.next)(B:jq):(σ.set b B).fresh:=by
 intro b' lh eN
 rw[k1]at eN
 rw[Ty]
 split at eN
 .omega
 .exact h _ _ eN
theorem QY{σ:H}(h:σ.fresh)(b:Nat):(σ.kill b).fresh:=by
 intro b' lh eN
 rw[xr]at eN
 rw[LX]
 split at eN
 .simp at eN
 .exact h _ _ eN
theorem Q0{σ:H}(h:σ.fresh)(n:Nat):(σ.room n).fresh:=by
 intro b' lh eN
 rw[F4]at eN
 rw[LZ]
 have:=h _ _ eN;omega
theorem aKs{σ:H}(h:σ.fresh){b:Nat}{B:jq}(ad:σ.get b=some B):¬σ.next=b:=by
 have:=h _ _ ad;omega
structure kC(S:Nat->Prop)(σ σ':H):Prop where
 next:σ.next<=σ'.next
 j4:∀b,b<σ.next->¬S b->σ'.get b=σ.get b
 fresh:σ'.fresh
abbrev none_:Nat->Prop:=fun _=>False
theorem kC.refl{S:Nat->Prop}{σ:H}(h:σ.fresh):kC S σ σ:=⟨Nat.le_refl _,fun _ _ _=>rfl,h⟩
theorem kC.trans{S:Nat->Prop}{σ σ1 oq:H}(h:kC S σ σ1)(g:kC S σ1 oq):kC S σ oq:=
 ⟨Nat.le_trans h.next g.next,fun b ad aa=>by rw[g.j4 b (Nat.lt_of_lt_of_le ad h.next) aa,h.j4 b ad aa],g.fresh⟩
theorem kC.mono{S S':Nat->Prop}{σ σ1:H}(h:kC S σ σ1)(aa:∀b,S b->S' b):kC S' σ σ1:=
 ⟨h.next,fun b ad ay=>h.j4 b ad fun g=>ay (aa b g),h.fresh⟩
theorem kC.get{S:Nat->Prop}{σ σ':H}(h:kC S σ σ')(aV:σ.fresh){b:Nat}{B:jq}(ad:σ.get b=some B)(aa:¬S b):σ'.get b=some B:=by
 rw[h.j4 b (aV _ _ ad) aa,ad]
theorem SG{S:Nat->Prop}{σ σ1:H}(h:kC S σ σ1)(B:jq):kC S σ (σ1.new B):=
 ⟨by rw[LY];have:=h.next;omega,fun b ad aa=>by rw[pZ,if_neg (by have:=h.next;omega),h.j4 b ad aa],QZ h.fresh B⟩
theorem aBT{S:Nat->Prop}{σ σ1:H}(h:kC S σ σ1){b:Nat}(ad:b<σ1.next)(aa:S b\/σ.next<=b)(B:jq):kC S σ (σ1.set b B):=
 ⟨by rw[Ty];exact h.next,fun b' eN eK=>by
  rw[k1,if_neg ?_,h.j4 b' eN eK]
  rintro rfl
  rcases aa with aa|aa
  .exact eK aa
  .omega,Q1 h.fresh ad B⟩
theorem aBS{S:Nat->Prop}{σ σ1:H}(h:kC S σ σ1){b:Nat}(aa:S b\/σ.next<=b):kC S σ (σ1.kill b):=
 ⟨by rw[LX];exact h.next,fun b' eN eK=>by
  rw[xr,if_neg ?_,h.j4 b' eN eK]
  rintro rfl
  rcases aa with aa|aa
  .exact eK aa
  .omega,QY h.fresh b⟩
theorem aLd{S:Nat->Prop}{σ σ1:H}(h:kC S σ σ1)(n:Nat):kC S σ (σ1.room n):=
 ⟨by rw[LZ];have:=h.next;omega,fun b ad aa=>by rw[F4,h.j4 b ad aa],Q0 h.fresh n⟩
theorem P7(c:T V)(o:Nat)(l:List V)(i:Nat):kE (c.ofList o l) i=if o<=i/\i<o+l.length then(l[i-o]?).getD .undef else kE c i:=by
 simp only[kE,T.uw]
 split<;>rfl
theorem aKa(i:Nat):kE .e i= .undef:=rfl
theorem aLS(c:T V)(i:Nat):qs c i 0=[]:=rfl
theorem aLR(c:T V)(i n:Nat):qs c i (n+1)=kE c i::qs c (i+1) n:=rfl
variable{Γ:ph}{N:T V->H->Prop}{E:Nat->T V->H->Prop}{R:T V->H->Prop}{t:T V}{σ:H}{K:V->H->Prop}
theorem aMd:ka Γ .skip N E R t σ=N t σ:=rfl
theorem aMb(l:List Op):ka Γ (.ao l) N E R t σ=my Γ l N t σ:=rfl
theorem aI2(l:List dg):ka Γ (.draw l) N E R t σ=iW Γ σ.next l N t (σ.room l.length) [σ.room l.length]:=rfl
theorem aI3(a b:C):ka Γ (.seq a b) N E R t σ=ka Γ a (fun t σ=>ka Γ b N E R t σ) E R t σ:=rfl
theorem aI1(c:aG)(a b:C):ka Γ (.cond c a b) N E R t σ=match aW t c with
 | .bool x=>if x=true then ka Γ a N E R t σ else ka Γ b N E R t σ
 |_=>False:=rfl
theorem aI0(id:Nat)(c:C):ka Γ (.block id c) N E R t σ=ka Γ c N (fun i t σ=>if i=id then N t σ else E i t σ) R t σ:=rfl
theorem aMa{c:C}(Inv:Nat->T V->H->Prop)(n:Nat)(a5:Inv n t σ)(aa:∀n t σ,Inv n t σ->ka Γ c (fun t σ=>∃n',n'<n/\Inv n' t σ) E R t σ):ka Γ (.loop c) N E R t σ:=⟨Inv,⟨n,a5⟩,aa⟩
theorem aL_(id:Nat):ka Γ (.exit id) N E R t σ=E id t σ:=rfl
theorem aMc:ka Γ .ret N E R t σ=R t σ:=rfl
theorem aMf:my Γ [] N t σ=N t σ:=rfl
theorem aMg(d:Option Nat)(x:X)(r:List Op):my Γ (⟨d,x,none⟩::r) N t σ=gE Γ x (fun v σ'=>my Γ r N (dp t d v) σ') t σ:=rfl
theorem aMh(d:Option Nat)(x:X)(j:Nat)(b:Bool)(r:List Op):my Γ (⟨d,x,some (j,b)⟩::r) N t σ=match aW t (.t j)with
 | .bool c=>if c=b then gE Γ x (fun v σ'=>my Γ r N (dp t d v) σ') t σ else my Γ r N (dp t d .undef) σ
 | .any=>False
 |_=>my Γ r N (dp t d .undef) σ:=rfl
theorem aMe(base:Nat)(cs:List H):iW Γ base [] N t σ cs=N t σ:=rfl
theorem aI5(base:Nat)(cs:List H)(i back jx:Nat)(d:Option Nat)(x:X)(r:List dg):iW Γ base (⟨i,⟨d,x,none⟩,true,back,jx⟩::r) N t σ cs=
 gE Γ x (fun v σ'=>iW Γ base r N (dp t d v) σ' (σ'::cs)) t σ:=rfl
theorem aI6(base:Nat)(cs:List H)(i back jx:Nat)(d:Option Nat)(x:X)(j:Nat)(b:Bool)(r:List dg):iW Γ base (⟨i,⟨d,x,some (j,b)⟩,true,back,jx⟩::r) N t σ cs=
 match aW t (.t j)with
 | .bool c=>if c=b then gE Γ x (fun v σ'=>iW Γ base r N (dp t d v) σ' (σ'::cs)) t σ else iW Γ base r N (dp t d .undef) σ (σ::cs)
 | .any=>False
 |_=>iW Γ base r N (dp t d .undef) σ (σ::cs):=rfl
def wo(base i back:Nat)(x:X)(t:T V)(σ:H)(cs:List H):Option (V×H):=
 match x with
 | .l x=>(gX (aW t) x).map fun v=>(v,σ)
 | .a x=>(nT (aW t) x).map fun p=>(p.2 (base+i),σ.set (base+i) p.1)
 | .load n agg a=>match oh σ n agg (aW t a)with
   |some v=>if held n agg (aW t a) v back cs then some (v,σ)else none
   |none=>none
 |_=>none
theorem asO(base:Nat)(cs:List H)(i back jx:Nat)(d:Option Nat)(x:X)(r:List dg):iW Γ base (⟨i,⟨d,x,none⟩,false,back,jx⟩::r) N t σ cs=
 match wo base i back x t σ cs with
 |some p=>iW Γ base r N (dp t d p.1) p.2 cs
 |none=>False:=by
 simp only[iW,qH,pf,nX]
 cases x<;>simp only[wo]
 case l x=>simp;cases gX (aW t) x<;>simp
 case a x=>simp;cases nT (aW t) x<;>simp
 case load n agg a=>
  simp
  cases oh σ n agg (aW t a)with
  |none=>simp
  |some v=>by_cases h:held n agg (aW t a) v back cs=true<;>simp[h]
 all_goals simp
theorem aI7(base:Nat)(cs:List H)(i back jx:Nat)(d:Option Nat)(x:X)(j:Nat)(b:Bool)(r:List dg):iW Γ base (⟨i,⟨d,x,some (j,b)⟩,false,back,jx⟩::r) N t σ cs=
 match aW t (.t j)with
 | .bool c=>if c=b then(match wo base i back x t σ cs with
  |some p=>iW Γ base r N (dp t d p.1) p.2 cs
  |none=>False)else iW Γ base r N (dp t d .undef) σ cs
 | .any=>False
 |_=>iW Γ base r N (dp t d .undef) σ cs:=by
 cases hv:aW t (.t j)<;>simp only[iW,qH,pf,nX,hv,V.known]
 case bool c=>
  by_cases af:c=b
  .subst af
   simp only[beq_self_eq_true,if_true]
   have:=asO (Γ:=Γ) (N:=N) (t:=t) (σ:=σ) base cs i back jx d x r
   simp only[iW,qH,pf,nX]at this
   simpa using this
  .simp[af]
 all_goals simp
theorem aJn(x:s6):gE Γ (.l x) K t σ=match gX (aW t) x with|some v=>K v σ|none=>False:=rfl
theorem aJf(x:pq):gE Γ (.a x) K t σ=match nT (aW t) x with|some p=>K (p.2 σ.next) (σ.new p.1)|none=>False:=rfl
theorem aJp(n:Nat)(agg:Bool)(a:aG):gE Γ (.load n agg a) K t σ=match oh σ n agg (aW t a)with|some v=>K v σ|none=>False:=rfl
theorem aJh(f:FuncId)(args:List aG):gE Γ (.call f args) K t σ=mZ Γ f (args.map (aW t)) σ K:=rfl
theorem asX(f:aG)(args:List aG):gE Γ (.pr f args) K t σ=match aW t f with
 | .fn (.func f) first cap=>mZ Γ f (first++args.map (aW t)++cap) σ K
 |_=>False:=rfl
theorem asY(name:String)(recv:aG)(args:List aG):gE Γ (.invoke name recv args) K t σ=match aW t recv with
 | .iface fk v=>match uS Γ.m σ fk v name with
   |some p=>mZ Γ p.1 (p.2::args.map (aW t)) σ K
   |none=>False
 |_=>False:=rfl
theorem aJr(n:Nat)(a v:aG):gE Γ (.store n a v) K t σ=match aW t a with
 | .ptr b o=>if(aW t v).cells.length=n then(match σ.pe b o (aW t v).cells with|some σ'=>K .undef σ'|none=>False)else False
 |_=>False:=by
 simp only[gE,step]
 cases aW t a<;>simp only[]
 case ptr b o=>
  by_cases h:(aW t v).cells.length=n
  .simp only[h,if_true]
   cases σ.pe b o (aW t v).cells<;>simp
  .simp only[h,if_false]
theorem aJg(z bytes:Nat)(s x:aG):gE Γ (.append z bytes s x) K t σ=match ow σ z bytes (aW t s) (aW t x)with|some p=>K p.1 p.2|none=>False:=by
 simp only[gE,step]
 cases ow σ z bytes (aW t s) (aW t x)<;>rfl
theorem aJj(z:Nat)(s x:aG):gE Γ (.copy z s x) K t σ=match copyV σ z (aW t s) (aW t x)with|some p=>K p.1 p.2|none=>False:=by
 simp only[gE,step]
 cases copyV σ z (aW t s) (aW t x)<;>rfl
theorem aJi(dt:List V)(x:aG):gE Γ (.vt dt x) K t σ=match aW t x with
 | .br=>K (.bN []) σ
 | .slice b o len _ z=>if len=0 then K (.bN []) σ else if z=dt.length then(match σ.pe b o (im dt len)with|some σ'=>K (.bN []) σ'|none=>False)else False
 |_=>False:=by
 simp only[gE,step]
 cases aW t x<;>simp only[]
 case slice b o len c z=>
  by_cases h:len=0
  .simp only[h,if_true]
  .by_cases U:z=dt.length
   .simp only[h,U,if_true,if_false]
    cases σ.pe b o (im dt len)<;>rfl
   .simp only[h,U,if_false]
theorem aJm(neg:Bool)(x y:aG):gE Γ (.yN neg x y) K t σ=match ptrEq σ (aW t x) (aW t y)with|some r=>K (.bool (if neg then !r else r)) σ|none=>False:=by
 simp only[gE,step]
 cases ptrEq σ (aW t x) (aW t y)<;>rfl
theorem aJs(mp k v:aG):gE Γ (.update mp k v) K t σ=match aW t mp with
 | .map r=>match σ.get r with
   |some (.map false es)=>match kF (aW t k) es with
    |some _=>K .undef (σ.set r (.map false (nR (aW t k) (aW t v) es)))
    |none=>False
   |_=>False
 |_=>False:=by
 simp only[gE,step]
 cases aW t mp<;>simp only[]
 case map r=>
  rcases σ.get r with _|⟨_,_,_⟩|⟨_|_,es⟩<;>try rfl
  simp only[]
  rcases kF (aW t k) es with _|_<;>rfl
theorem aJk(mp k:aG):gE Γ (.delete mp k) K t σ=match aW t mp with
 | .map r=>match σ.get r with
   |some (.map false es)=>match kF (aW t k) es with
    |some _=>K (.bN []) (σ.set r (.map false (mE (aW t k) es)))
    |none=>False
   |_=>False
 |_=>False:=by
 simp only[gE,step]
 cases aW t mp<;>simp only[]
 case map r=>
  rcases σ.get r with _|⟨_,_,_⟩|⟨_|_,es⟩<;>try rfl
  simp only[]
  rcases kF (aW t k) es with _|_<;>rfl
theorem aLl{b o n:Nat}{agg:Bool}{ro:Bool}{m:Nat}{c:T V}(h:σ.get b=some (.cells ro m c))(hm:o+n<=m):
 oh σ n agg (.ptr b o)=if agg=true then some (.agg (qs c o n))else(qs c o n)[0]? :=by
 simp only[oh,H.l2,h]
 rw[if_pos hm]
theorem asm{b o:Nat}{m:Nat}{c:T V}{l:List V}(h:σ.get b=some (.cells false m c))(hm:o+l.length<=m)(aA:l.all V.cell=true):
 σ.pe b o l=some (σ.set b (.cells false m (c.ofList o l))):=by
 simp only[H.pe,h]
 rw[if_pos ⟨hm,aA⟩]
theorem aKu{f:FuncId}{fP:bn}{args:List V}{Q:V->H->Prop}(aV:Γ.jn f=some fP)(ak:fP.wH=none)(aa:Γ.r3 f args σ=none)
 (h:∀N:T V->H->Prop,(∀t σ',(match pG t σ' fP.j8 with|some l=>Q (q7 l) σ'|none=>False)->N t σ')->ka Γ fP.body N (fun _ _ _=>False) N (T.ofList .e 0 args) σ):mZ Γ f args σ Q:=
 Q3 aV ak aa (h _ fun _ _ h=>h)
theorem ne_next{b:Nat}(h:b<σ.next)(k:Nat):(σ.next+k=b)=False:=by simp;omega
theorem aLv{b:Nat}(h:b<σ.next):(σ.next=b)=False:=by simp;omega
theorem aDH(n k:Nat):(n=n+(k+1))=False:=aM
theorem aDI(n k:Nat):(n+(k+1)=n)=False:=aM
theorem au3(n a b:Nat):(n+a=n+b)=(a=b):=aM
theorem aJq(zero:V)(ok:Bool)(mp k:aG):gE Γ (.lookup zero ok mp k) K t σ=match aW t mp with
 | .hC=>K (if ok then .bN [zero,.bool false]else zero) σ
 | .map r=>match σ.get r with
   |some (.map _ es)=>match kF (aW t k) es with
    |some (some v)=>K (if ok then .bN [v,.bool true]else v) σ
    |some none=>K (if ok then .bN [zero,.bool false]else zero) σ
    |none=>False
   |_=>False
 |_=>False:=by
 simp only[gE,step]
 cases aW t mp<;>simp only[]
 case map r=>
  cases σ.get r with
  |none=>rfl
  |some B=>
   cases B with
   |cells _ _ _=>rfl
   |map ro es=>
    simp only[]
    rcases kF (aW t k) es with _|_|v<;>rfl
theorem aJo(mp:aG):gE Γ (.wm mp) K t σ=match aW t mp with
 | .hC=>K (.int .i64 0) σ
 | .map r=>match σ.get r with
   |some (.map _ es)=>K (.int .i64 es.length) σ
   |_=>False
 |_=>False:=by
 simp only[gE,step]
 cases aW t mp<;>simp only[]
 case map r=>
  cases σ.get r with
  |none=>rfl
  |some B=>cases B<;>rfl
def V.plain:V->Bool
 | .undef| .bool _| .int _ _| .ptr _ _| .nil| .slice _ _ _ _ _| .br| .map _| .hC| .fZ| .jC| .any=>true
 |_=>false
theorem Ni{v:V}(h:v.plain=true)(n:Nat):V.same n v v=true:=by
 cases v<;>simp[V.plain]at h<;>cases n<;>simp[V.same]
theorem H0:∀(l:List V) (n:Nat),l.length<n->l.all V.plain=true->V.r1 n l l=true
 |[],n,h,_=>by cases n<;>simp[V.r1]
 |v::l,n,h,aB=>by
  obtain⟨k,rfl⟩:∃k,n=k+1:=⟨n-1,by simp at h;omega⟩
  simp only[List.all_cons,Bool.and_eq_true]at aB
  simp only[V.r1,Ni aB.1,H0 l k (by simp at h;omega) aB.2,Bool.and_self]
def V.qJ:V->Bool
 | .agg l=>decide (l.length<30)&&l.all V.plain
 |v=>v.plain
theorem nP{v:V}(h:v.qJ=true):V.same 40 v v=true:=by
 cases v
 case agg l=>
  simp only[V.qJ,Bool.and_eq_true,decide_eq_true_eq]at h
  simp only[V.same]
  exact H0 l 39 I h.2
 all_goals exact Ni (by simpa[V.qJ]using h) 40
theorem awf(b:Bool):(V.bool b).cell=true:=rfl
theorem awu(b:Bool):(V.bool b).cells=[(V.bool b)]:=rfl
theorem aEB(b:Bool):(V.bool b).plain=true:=rfl
theorem axE(b:Bool):(V.bool b).qJ=true:=rfl
theorem awk(k:IntKind)(n:Int):(V.int k n).cell=true:=rfl
theorem awz(k:IntKind)(n:Int):(V.int k n).cells=[(V.int k n)]:=rfl
theorem aEE(k:IntKind)(n:Int):(V.int k n).plain=true:=rfl
theorem axH(k:IntKind)(n:Int):(V.int k n).qJ=true:=rfl
theorem awo(b o:Nat):(V.ptr b o).cell=true:=rfl
theorem awF(b o:Nat):(V.ptr b o).cells=[(V.ptr b o)]:=rfl
theorem aEI(b o:Nat):(V.ptr b o).plain=true:=rfl
theorem axL(b o:Nat):(V.ptr b o).qJ=true:=rfl
theorem awn:V.nil.cell=true:=rfl
theorem awE:V.nil.cells=[V.nil]:=rfl
theorem aEH:V.nil.plain=true:=rfl
theorem axK:V.nil.qJ=true:=rfl
theorem awp(b o len cap z:Nat):(V.slice b o len cap z).cell=true:=rfl
theorem awG(b o len cap z:Nat):(V.slice b o len cap z).cells=[(V.slice b o len cap z)]:=rfl
theorem aEJ(b o len cap z:Nat):(V.slice b o len cap z).plain=true:=rfl
theorem axM(b o len cap z:Nat):(V.slice b o len cap z).qJ=true:=rfl
theorem awq:V.br.cell=true:=rfl
theorem awH:V.br.cells=[V.br]:=rfl
theorem aEK:V.br.plain=true:=rfl
theorem axN:V.br.qJ=true:=rfl
theorem awl(r:Nat):(V.map r).cell=true:=rfl
theorem awC(r:Nat):(V.map r).cells=[(V.map r)]:=rfl
theorem aEF(r:Nat):(V.map r).plain=true:=rfl
theorem axI(r:Nat):(V.map r).qJ=true:=rfl
theorem awm:V.hC.cell=true:=rfl
theorem awD:V.hC.cells=[V.hC]:=rfl
theorem aEG:V.hC.plain=true:=rfl
theorem axJ:V.hC.qJ=true:=rfl
theorem awg(f:Fn)(a c:List V):(V.fn f a c).cell=true:=rfl
theorem awv(f:Fn)(a c:List V):(V.fn f a c).cells=[(V.fn f a c)]:=rfl
theorem awh:V.fZ.cell=true:=rfl
theorem aww:V.fZ.cells=[V.fZ]:=rfl
theorem aEC:V.fZ.plain=true:=rfl
theorem axF:V.fZ.qJ=true:=rfl
theorem awi(t:TypeId)(v:V):(V.iface t v).cell=true:=rfl
theorem awx(t:TypeId)(v:V):(V.iface t v).cells=[(V.iface t v)]:=rfl
theorem awj:V.jC.cell=true:=rfl
theorem awy:V.jC.cells=[V.jC]:=rfl
theorem aED:V.jC.plain=true:=rfl
theorem axG:V.jC.qJ=true:=rfl
theorem aBW(b:Bool):(V.bool b).known=true:=rfl
theorem aB1(k:IntKind)(n:Int):(V.int k n).known=true:=rfl
theorem aB6(b o:Nat):(V.ptr b o).known=true:=rfl
theorem aB4:V.nil.known=true:=rfl
theorem aB8(b o len cap z:Nat):(V.slice b o len cap z).known=true:=rfl
theorem aB9:V.br.known=true:=rfl
theorem aB2(r:Nat):(V.map r).known=true:=rfl
theorem aB3:V.hC.known=true:=rfl
theorem aBX(f:Fn)(a c:List V):(V.fn f a c).known=true:=rfl
theorem aBY:V.fZ.known=true:=rfl
theorem aBZ(t:TypeId)(v:V):(V.iface t v).known=true:=rfl
theorem aB0:V.jC.known=true:=rfl
theorem aCa:V.undef.known=true:=rfl
theorem aBV(al:List V):(V.agg al).known=true:=rfl
theorem aB_(al:List V):(V.bN al).known=true:=rfl
theorem aB'(s:ByteArray):(V.str s).known=true:=rfl
theorem awt(al:List V):(V.agg al).cells=al:=rfl
theorem flat_agg(al:List V):(V.agg al).qJ=(decide (al.length<30)&&al.all V.plain):=rfl
theorem aHa(b:Bool):V.same 40 (V.bool b) (V.bool b)=true:=nP rfl
theorem aHg(k:IntKind)(n:Int):V.same 40 (V.int k n) (V.int k n)=true:=nP rfl
theorem aHk(b o:Nat):V.same 40 (V.ptr b o) (V.ptr b o)=true:=nP rfl
theorem aHj:V.same 40 V.nil V.nil=true:=nP rfl
theorem oN(b o len cap z:Nat):V.same 40 (V.slice b o len cap z) (V.slice b o len cap z)=true:=nP rfl
theorem oO:V.same 40 V.br V.br=true:=nP rfl
theorem aHh(r:Nat):V.same 40 (V.map r) (V.map r)=true:=nP rfl
theorem aHi:V.same 40 V.hC V.hC=true:=nP rfl
theorem aHc:V.same 40 V.fZ V.fZ=true:=nP rfl
theorem aHf:V.same 40 V.jC V.jC=true:=nP rfl
theorem aHd(fk:TypeId){v:V}(h:v.plain=true):V.same 40 (V.iface fk v) (V.iface fk v)=true:=by simp only[V.same,Ni h];simp
theorem aHe(fk:TypeId)(b o:Nat):V.same 40 (V.iface fk (V.ptr b o)) (V.iface fk (V.ptr b o))=true:=aHd fk rfl
theorem aLF{v:V}(h:v.plain=true)(U:v≠ .undef)(aq:v≠ .any):v.cell=true:=by cases v<;>simp_all[V.plain,V.cell]
theorem asT(k:IntKind){n:Int}(J:k.min<=n)(U:n<=k.max):k.wrap n=n:=by
 cases k<;>simp[IntKind.min,IntKind.max,IntKind.signed,IntKind.bits]at J U
 .exact IntWalk.i8_in n I
 .exact IntWalk.i16_in n I
 .exact IntWalk.i32_in n I
 .exact IntWalk.i64_in n I
 .exact IntWalk.u8_in n I
 .exact IntWalk.u16_in n I
 .exact IntWalk.u32_in n I
 .exact IntWalk.u64_in n I
theorem wrap_u64{n:Int}(h:0<=n)(U:n<18446744073709551616):IntKind.wrap .u64 n=n:=asT _ (by simpa[IntKind.min,IntKind.signed]using h) (by simp[IntKind.max,IntKind.signed,IntKind.bits];omega)
theorem wrap_i64{n:Int}(h: -9223372036854775808<=n)(U:n<9223372036854775808):IntKind.wrap .i64 n=n:=asT _ (by simp[IntKind.min,IntKind.signed,IntKind.bits];omega) (by simp[IntKind.max,IntKind.signed,IntKind.bits];omega)
end
def j_(σ:H)(b:Nat)(ro:Bool)(vs:List V):Prop:=∃c,σ.get b=some (.cells ro vs.length c)/\∀i,i<vs.length->some (kE c i)=vs[i]?
theorem j_.lt{σ:H}(aV:σ.fresh){b:Nat}{ro:Bool}{vs:List V}(h:j_ σ b ro vs):b<σ.next:=by
 obtain⟨c,af,_⟩:=h;exact aV _ _ af
theorem j_.keeps{σ σ':H}{S:Nat->Prop}(aV:σ.fresh)(ah:kC S σ σ'){b:Nat}{ro:Bool}{vs:List V}(h:j_ σ b ro vs)(aa:¬S b):j_ σ' b ro vs:=by
 obtain⟨c,af,hv⟩:=h
 exact⟨c,ah.get aV af aa,hv⟩
theorem aLA{σ:H}{b b':Nat}{ro:Bool}{vs:List V}(h:j_ σ b ro vs)(bp:¬b'=b)(B:jq):j_ (σ.set b' B) b ro vs:=by
 obtain⟨c,af,hv⟩:=h
 exact⟨c,by rw[k1,if_neg bp,af],hv⟩
theorem aLz{σ:H}{b:Nat}{ro:Bool}{vs:List V}(h:j_ σ b ro vs)(bp:¬σ.next=b)(B:jq):j_ (σ.new B) b ro vs:=by
 obtain⟨c,af,hv⟩:=h
 exact⟨c,by rw[pZ,if_neg bp,af],hv⟩
theorem aLy{σ:H}{b b':Nat}{ro:Bool}{vs:List V}(h:j_ σ b ro vs)(bp:¬b'=b):j_ (σ.kill b') b ro vs:=by
 obtain⟨c,af,hv⟩:=h
 exact⟨c,by rw[xr,if_neg bp,af],hv⟩
theorem awB(vs:List V):∀i,i<vs.length->some (kE (T.ofList .e 0 vs) i)=vs[i]? :=by
 intro i aC
 rw[P7,if_pos ⟨Nat.zero_le _,I⟩]
 simp[aC]
theorem Eb{σ:H}{b n:Nat}{ro:Bool}{vs:List V}(h:σ.get b=some (.cells ro n (T.ofList .e 0 vs)))(az:vs.length=n):j_ σ b ro vs:=
 ⟨_,by rw[h,az],awB vs⟩
theorem awI{c:T V}{vs:List V}{o:Nat}(h:∀i,i<vs.length->some (kE c i)=vs[i]?)(l:List V)(aA:o+l.length<=vs.length):
 ∀i,i<vs.length->some (kE (c.ofList o l) i)=(vs.take o++l++vs.drop (o+l.length))[i]? :=by
 intro i aC
 rw[P7]
 by_cases J:i<o
 .rw[if_neg I,h i aC,List.getElem?_append_left (by simp;omega),List.getElem?_append_left (by simp;omega),List.getElem?_take,if_pos J]
 .by_cases U:i<o+l.length
  .rw[if_pos ⟨I,U⟩,List.getElem?_append_left (by simp;omega),List.getElem?_append_right (by simp;omega)]
   have:(vs.take o).length=o:=by simp;omega
   rw[this]
   have ap:i-o<l.length:=I
   simp[ap]
  .rw[if_neg I,h i aC,List.getElem?_append_right (by simp;omega),List.getElem?_drop]
   congr 1
   simp;omega
theorem L5{σ:H}{b:Nat}{c:T V}{vs:List V}{o n:Nat}(az:vs.length=n)(h:∀i,i<vs.length->some (kE c i)=vs[i]?)(l:List V)(aA:o+l.length<=vs.length):
 j_ (σ.set b (.cells false n (c.ofList o l))) b false (vs.take o++l++vs.drop (o+l.length)):=by
 subst az
 refine⟨c.ofList o l,?_,?_⟩
 .rw[k1,if_pos rfl]
  congr 2
  simp;omega
 .intro i aC
  exact awI h l aA i (by simp at aC;omega)
theorem aLB{σ:H}{b:Nat}{c:T V}{vs:List V}{o n:Nat}(az:vs.length=n)(h:∀i,i<vs.length->some (kE c i)=vs[i]?)(v:V)(aA:o<vs.length):
 j_ (σ.set b (.cells false n (c.ofList o [v]))) b false (vs.set o v):=by
 have:=L5 (σ:=σ) (b:=b) az h [v] (o:=o) (by simp;omega)
 rw[List.set_eq_take_append_cons_drop,if_pos aA]
 simpa using this
theorem aIk{c:T V}{vs:List V}(h:∀i,i<vs.length->some (kE c i)=vs[i]?):∀(n o:Nat),o+n<=vs.length->qs c o n=(vs.drop o).take n:=by
 intro n o az
 apply List.ext_getElem?
 intro i
 rw[aIl,List.getElem?_take,List.getElem?_drop]
 split
 .exact h _ I
 .rfl
theorem j_.load{σ:H}{b:Nat}{ro:Bool}{vs:List V}(h:j_ σ b ro vs){o n:Nat}(az:o+n<=vs.length):σ.l2 b o n=some ((vs.drop o).take n):=by
 obtain⟨c,af,hv⟩:=h
 simp only[H.l2,af,if_pos az]
 rw[aIk hv n o az]
theorem j_.S5{σ:H}{b:Nat}{ro:Bool}{vs:List V}(h:j_ σ b ro vs){o:Nat}{v:V}(hv:vs[o]? =some v):σ.l2 b o 1=some [v]:=by
 have au:o<vs.length:=by
  rcases Nat.lt_or_ge o vs.length with h|h
  .exact h
  .rw[List.getElem?_eq_none h]at hv;simp at hv
 rw[h.load I]
 rw[List.getElem?_eq_getElem au]at hv
 simp at hv
 rw[List.drop_eq_getElem_cons au,hv]
 simp
theorem kC.here{S:Nat->Prop}{σ σ':H}(h:kC S σ σ'){b:Nat}{B:jq}(ad:σ.get b=some B)(ap:b<σ.next)(aa:¬S b):σ'.get b=some B:=by rw[h.j4 b ap aa,ad]
theorem avk{σ:H}{z bytes b o len cap n m:Nat}{x:V}{old new:List V}{c:T V}(ad:σ.get b=some (.cells false m c))(hold:σ.l2 b o (len*z)=some old)(aj:tP σ z x=some (n,new))(az:n≠0)
 (mL:¬len+n<=cap) (hle:len+n<=1048576) (vL:bytes<=1024) (af:new.all V.cell=true):
 ow σ z bytes (.slice b o len cap z) x=some (.slice σ.next 0 (len+n) (len+n) z,(σ.kill b).new (nB (old++new))):=by
 simp only[ow,aj]
 rw[if_neg aM,if_neg az,if_neg mL,if_pos ⟨hle,vL,af⟩]
 simp only[ad,hold]
theorem avl{σ:H}{z bytes b o len cap n m:Nat}{x:V}{new:List V}{c:T V}(ad:σ.get b=some (.cells false m c))(aj:tP σ z x=some (n,new))(az:n≠0)
 (mL:len+n<=cap) (hm:o+len*z+new.length<=m) (af:new.all V.cell=true):
 ow σ z bytes (.slice b o len cap z) x=some (.slice b o (len+n) cap z,σ.set b (.cells false m (c.ofList (o+len*z) new))):=by
 simp only[ow,aj]
 rw[if_neg aM,if_neg az,if_pos mL]
 rw[asm ad hm af]
 rfl
theorem avm{σ:H}{z bytes n:Nat}{x:V}{new:List V}(aj:tP σ z x=some (n,new))(az:n≠0)(hle:n<=1048576)(vL:bytes<=1024):
 ow σ z bytes .br x=some (.slice σ.next 0 n n z,σ.new (nB new)):=by
 simp only[ow,aj]
 rw[if_neg az,if_pos ⟨hle,vL⟩]
theorem aLO{σ:H}{z b o len cap:Nat}{l:List V}(h:σ.l2 b o (len*z)=some l):tP σ z (.slice b o len cap z)=some (len,l):=by
 simp only[tP,if_true,h,Option.map_some]
theorem avC{σ:H}{l:List V}:(σ.new (nB l)).get σ.next=some (.cells false l.length (T.ofList .e 0 l)):=by rw[pZ,if_pos rfl];rfl
theorem Hm{σ:H}{l:List V}:j_ (σ.new (nB l)) σ.next false l:=Eb avC rfl
end Go.Abs
namespace Go.Abs
def qw(σ:H)(z:Nat)(dr:V)(n:Nat)(vs:List V)(fl:List Nat):Prop:=
 (dr= .br/\n=0/\vs=[]/\fl=[])\/∃lb o cap cells,dr= .slice lb o n cap z/\j_ σ lb false cells/\n<=cap/\o+cap*z<=cells.length/\vs=(cells.drop o).take (n*z)/\fl=[lb]
def oI:V->Option V
 | .slice _ _ len _ _=>some (.int .i64 len)
 | .br=>some (.int .i64 0)
 |_=>none
theorem aHW(ρ:aG->V)(x:aG):gX ρ (.uQ x)=oI (ρ x):=by
 simp only[gX]
 cases ρ x<;>rfl
theorem lK(b o len cap z:Nat):oI (.slice b o len cap z)=some (.int .i64 len):=rfl
theorem SR:oI .br=some (.int .i64 0):=rfl
namespace qw
variable{σ σ':H}{z n:Nat}{dr:V}{vs:List V}{fl:List Nat}
theorem plain(h:qw σ z dr n vs fl):dr.plain=true/\dr.cell=true:=by
 rcases h with⟨rfl,_⟩|⟨lb,o,cap,cells,rfl,_⟩<;>exact⟨rfl,rfl⟩
theorem oI(h:qw σ z dr n vs fl):oI dr=some (.int .i64 (n:Int)):=by
 rcases h with⟨rfl,rfl,_⟩|⟨lb,o,cap,cells,rfl,_⟩<;>rfl
theorem length(h:qw σ z dr n vs fl):vs.length=n*z:=by
 rcases h with⟨rfl,rfl,rfl,_⟩|⟨lb,o,cap,cells,rfl,_,J,U,rfl,_⟩
 .simp
 .have:n*z<=cap*z:=Nat.mul_le_mul_right z J
  simp;omega
theorem keeps{S:Nat->Prop}(h:qw σ z dr n vs fl)(aV:σ.fresh)(ah:kC S σ σ')(aa:∀b∈fl,¬S b):qw σ' z dr n vs fl:=by
 rcases h with h|⟨lb,o,cap,cells,J,U,aq,aK,bx,rfl⟩
 .exact .inl h
 .exact .inr ⟨lb,o,cap,cells,J,U.keeps aV ah (aa lb aM),aq,aK,bx,rfl⟩
theorem lt(h:qw σ z dr n vs fl)(aV:σ.fresh):∀b∈fl,b<σ.next:=by
 rcases h with⟨_,_,_,rfl⟩|⟨lb,o,cap,cells,J,U,aq,aK,bx,rfl⟩
 .simp
 .intro b ad
  simp only[List.mem_singleton]at ad
  subst ad;exact U.lt aV
theorem append(h:qw σ z dr n vs fl)(aV:σ.fresh){x:V}{new:List V}{bytes:Nat}(aj:tP σ z x=some (1,new))(bB:new.length=z)(af:new.all V.cell=true)(az:n<1000000)(vL:bytes<=1024):
 ∃nU σ' fl',ow σ z bytes dr x=some (nU,σ')/\qw σ' z nU (n+1) (vs++new) fl'/\kC (· ∈fl) σ σ'/\(fl'=fl\/∃b,σ.next<=b/\fl'=[b]):=by
 rcases h with⟨rfl,rfl,rfl,rfl⟩|⟨lb,o,cap,cells,rfl,au,aq,aK,rfl,rfl⟩
 .refine⟨.slice σ.next 0 1 1 z,_,[σ.next],avm aj (by decide) I vL,.inr ⟨σ.next,0,1,new,rfl,Hm,Nat.le_refl _,I,?_,rfl⟩,SG (kC.refl aV) _,.inr ⟨_,Nat.le_refl _,rfl⟩⟩
  simp[<-bB]
 .have ap:=au.lt aV
  have azq:n*z<=cap*z:=Nat.mul_le_mul_right z aq
  have hs:((cells.drop o).take (n*z)).length=n*z:=by simp;omega
  by_cases mL:n+1<=cap
  .obtain⟨c,hr,g2⟩:=id au
   have Kp:(n+1)*z<=cap*z:=Nat.mul_le_mul_right z mL
   rw[Nat.add_mul,Nat.one_mul]at Kp
   refine⟨.slice lb o (n+1) cap z,σ.set lb (.cells false cells.length (c.ofList (o+n*z) new)),[lb],avl hr aj (by decide) mL I af,?_,aBT (kC.refl aV) ap (.inl aM) _,.inl rfl⟩
   refine .inr ⟨lb,o,cap,_,rfl,L5 (σ:=σ) (b:=lb) rfl g2 new (o:=o+n*z) I,mL,?_,?_,rfl⟩
   .simp;omega
   .rw[Nat.add_mul,Nat.one_mul,List.append_assoc,List.drop_append_of_le_length (by simp;omega),List.drop_take]
    have aJ:o+n*z-o=n*z:=I
    rw[aJ,<-List.append_assoc,List.take_left' (by rw[List.length_append,hs,bB])]
  .have hold:=au.load (o:=o) (n:=n*z) I
   obtain⟨c,hr,g2⟩:=id au
   refine⟨.slice σ.next 0 (n+1) (n+1) z,_,[σ.next],avk hr hold aj (by decide) I I vL af,?_,SG (aBS (kC.refl aV) (.inl aM)) _,.inr ⟨_,Nat.le_refl _,rfl⟩⟩
   refine .inr ⟨σ.next,0,n+1,(cells.drop o).take (n*z)++new,rfl,?_,Nat.le_refl _,?_,?_,rfl⟩
   .exact Hm (σ:=σ.kill lb)
   .rw[List.length_append,hs,bB,Nat.add_mul,Nat.one_mul,Nat.zero_add];exact Nat.le_refl _
   .rw[List.drop_zero]
    refine(List.take_of_length_le ?_).symm
    rw[List.length_append,hs,bB,Nat.add_mul,Nat.one_mul];exact Nat.le_refl _
theorem tail(h:qw σ z dr (n+1) vs fl):∃nU,q9 z dr (some (.int .i64 1)) none=some nU/\qw σ z nU n (vs.drop z) fl:=by
 rcases h with⟨rfl,h,_⟩|⟨lb,o,cap,cells,rfl,au,aq,aK,rfl,rfl⟩
 .simp at h
 .refine⟨.slice lb (o+z) n (cap-1) z,?_,.inr ⟨lb,o+z,cap-1,cells,rfl,au,I,?_,?_,rfl⟩⟩
  .simp only[q9,ix]
   rw[if_pos (by decide)]
   have e:Int.toNat 1=1:=rfl
   simp only[e]
   rw[if_pos ⟨I,aq,trivial⟩]
   simp
  .have:cap*z=(cap-1)*z+z:=by
    obtain⟨k,rfl⟩:∃k,cap=k+1:=⟨cap-1,I⟩
    rw[Nat.add_mul,Nat.one_mul,Nat.add_sub_cancel]
   omega
  .rw[List.drop_take,List.drop_drop,Nat.add_mul,Nat.one_mul]
   congr 1
   omega
theorem load(h:qw σ z dr n vs fl)(az:0<n):∃lb o cap cells,dr= .slice lb o n cap z/\j_ σ lb false cells/\n<=cap/\o+cap*z<=cells.length/\vs=(cells.drop o).take (n*z)/\fl=[lb]:=by
 rcases h with⟨rfl,rfl,_⟩|h
 .omega
 .exact h
end qw
theorem aJ9{σ:H}{z:Nat}:qw σ z .br 0 [] []:=.inl ⟨rfl,rfl,rfl,rfl⟩
