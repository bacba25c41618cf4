/- Part of the proof of BatchOnce, for every input. -/
import Derived.Test.YtobokeclhlbnmaaGreatA3
import Derived.Tactics
set_option linter.all false
namespace Go.Abs
section
def FT(ops:Array Oper):Option (Nat×Bool)->Option (Option (Nat×Bool))
 |none=>some none
 |some (j,b)=>match(ops[j]?).bind (·.dst)with
  |some d=>some (some (d,b))
  |none=>none
def yL(cW:Nat):Option Nat->Bool
 |some d=>decide (d<cW)
 |none=>true
def us(P:Program)(aQ:List Nat)(cW:Nat)(ops:Array Oper)(o:Oper):Option Op:=
 match Jt P aQ o.op,FT ops o.guard with
 |some x,some g=>if yL cW o.dst=true then some ⟨o.dst,x,g⟩else none
 |_,_=>none
def Ch(φ:F)(σ:H)(w:World):ll->Ending->World->Prop
 | .ret v σ',e,w'=>∃v' cz,e= .returned v'/\cM φ σ w cz σ' w'/\cu cz v v'
 | .fN v σ',e,w'=>∃v' cz,e= .panicked [{v:=v',recovered:=false}]/\cM φ σ w cz σ' w'/\cu cz v v'
def rj(P:Program)(aQ:List Nat)(call:Call):Prop:=
 ∀f args σ r,call f args σ=some r->∀(φ:F) (w:World) (args':List Value),Rel φ σ w->nZ φ aQ->eD φ args args'->
  (callFunc f ⟨args'⟩).run P w= .ok (.enter f ⟨args'⟩) w/\Calls P f ⟨args'⟩ w (Ch φ σ w r)
structure jT(φ:F)(cW:Nat)(ds:List Deferred)(t:T V)(a:Act):Prop where
 rel:Ci φ t a.tmps
 size:cW<=a.tmps.size
 defers:a.defers=ds
section
variable{P:Program}{aQ:List Nat}{φ:F}{σ:H}{w:World}{cW:Nat}{ds:List Deferred}{t:T V}{a:Act}
theorem nZ.mono{ec:F}(h:nZ φ aQ)(hle:φ.le ec):nZ ec aQ:=fun g aw=>by
 obtain⟨p,aB,J,U⟩:=h g aw
 exact⟨p,hle _ _ aB,J,U⟩
theorem Ci.mono{ec:F}{asz:Array Value}(h:Ci φ t asz)(hle:φ.le ec):Ci ec t asz:=fun i=>(h i).mono hle
theorem jT.mono{ec:F}(h:jT φ cW ds t a)(hle:φ.le ec):jT ec cW ds t a:=⟨h.rel.mono hle,h.size,h.defers⟩
theorem QM(t:T V)(d:Nat)(v:V)(i:Nat):aW (t.put d (some v)) (.t i)=if d=i then v else aW t (.t i):=by
 simp only[aW,T.ux]
 split<;>rfl
theorem jT.put(h:jT φ cW ds t a){d:Option Nat}(aH:yL cW d=true){v:V}{v':Value}(hv:cu φ v v'):jT φ cW ds (dp t d v) (a.put d v'):=by
 cases d with
 |none=>exact h
 |some d=>
  simp[yL]at aH
  refine⟨fun i=>?_,by simp[Act.put,h.size],by simp[Act.put,h.defers]⟩
  rw[dp,QM]
  by_cases aC:d=i
  .subst aC
   rw[if_pos rfl]
   have:d<a.tmps.size:=by exact Nat.lt_of_lt_of_le aH h.size
   simp[Act.put,this];exact hv
  .rw[if_neg aC]
   have:=h.rel i
   simp[Act.put,aC]at this |-
   exact this
theorem asN(h:jT φ cW ds t a){ops:Array Oper}{g:Option (Nat×Bool)}{g':Option (Nat×Bool)}{o:Oper}(aw:o.guard=g)(af:FT ops g=some g')(hu:pf t g'=false):Region.wanted o (yielded ops a.tmps)=nX t g':=by
 unfold Region.wanted
 rw[aw]
 cases g with
 |none=>simp[FT]at af;subst af;rfl
 |some p=>
  obtain⟨j,b⟩:=p
  simp only[FT]at af
  split at af
  .rename_i d aH
   simp at af;subst af
   simp only[yielded,aH,Option.bind_some,nX]
   have hv:=h.rel d
   simp only[pf,Bool.not_eq_false']at hu
   cases aj:a.tmps[d]? with
   |none=>
    have:a.tmps.getD d Go.undef=Go.undef:=by simp[Array.getD_eq_getD_getElem?,aj]
    rw[this]at hv
    generalize aW t (.t d)=u at hv hu
    cases u<;>first|rfl|(simp[V.known]at hu;done)|(exact absurd hv.FP (by simp[Go.undef]))
   |some x=>
    have:a.tmps.getD d Go.undef=x:=by simp[Array.getD_eq_getD_getElem?,aj]
    rw[this]at hv
    generalize aW t (.t d)=u at hv hu
    cases hv<;>first|rfl|(simp[V.known]at hu;done)|(cases b<;>rename_i c<;>cases c<;>rfl)
  .simp at af
def w1(φ:F)(cW:Nat)(ds:List Deferred)(σ:H)(w:World)(K:Act->World->Prop)(Q:Exit->Act->World->Prop):kl->Prop
 | .ok t' σ'=>∀cz a' w',cM φ σ w cz σ' w'->jT cz cW ds t' a'->K a' w'
 | .fN v t' σ'=>∀cz a' w' v',cM φ σ w cz σ' w'->jT cz cW ds t' a'->cu cz v v'->Q (.panic [{v:=v',recovered:=false}]) a' w'
theorem w1.after{φ B_:F}{cW:Nat}{ds:List Deferred}{σ σ1:H}{w dA:World}{K:Act->World->Prop}{Q:Exit->Act->World->Prop}{gb:kl}(h:w1 φ cW ds σ w K Q gb)(aa:cM φ σ w B_ σ1 dA):w1 B_ cW ds σ1 dA K Q gb:=by
 cases gb with
 |ok t' σ'=>exact fun cz a' w' J U=>h cz a' w' (aa.trans J) U
 |fN v t' σ'=>exact fun cz a' w' v' J U aq=>h cz a' w' v' (aa.trans J) U aq
theorem AJ{aQ:List Nat}{o:Go.Op}{x:X}(h:Jt P aQ o=some x):(∃y,x= .l y/\m4 P aQ o=some y)\/(∃y,x= .a y/\CC P aQ o=some y)\/gZ P aQ o=some x:=by
 unfold Jt at h
 split at h
 .exact .inr (.inr h)
 .split at h
  .rename_i y ai
   simp at h;subst h
   exact .inl ⟨y,rfl,ai⟩
  .split at h
   .rename_i y ai
    simp at h;subst h
    exact .inr (.inl ⟨y,rfl,ai⟩)
   .exact .inr (.inr h)
theorem Qh(aQ:List Nat)(o:Go.Op):(∀y,gZ P aQ o≠some (.l y))/\(∀y,gZ P aQ o≠some (.a y)):=by
 constructor<;>intro y h
 all_goals
  cases o
  case slice c6 cO fc kR iB=>
   cases iB<;>simp only[gZ]at h
   ·(repeat' split at h)<;>(try simp at h)
   .simp at h
  case call c=>
   obtain⟨ce,as,bM⟩:=c
   cases ce with
   |builtin b=>cases b<;>simp only[gZ]at h<;>(repeat' split at h)<;>simp[kX]at h<;>(try(repeat' split at h)<;>simp at h)
   |value q=>simp only[gZ]at h;(repeat' split at h)<;>simp at h
   |invoke r n=>simp only[gZ]at h;(repeat' split at h)<;>simp at h
  all_goals(simp only[gZ]at h;(repeat' split at h)<;>(try simp[kX]at h)<;>(try(repeat' split at h)<;>simp at h))
theorem FZ(h:Rel φ σ w)(aw:nZ φ aQ)(a3:jT φ cW ds t a){ops:Array Oper}{o:Oper}{x:Op}(af:us P aQ cW ops o=some x){m:iV}(hm:rq P m){call:Call}(lA:rj P aQ call)
 {gb:kl} (aa:km m call x t σ=some gb) {Q:Exit->Act->World->Prop} {K:Act->World->Prop} (jI:w1 φ cW ds σ w K Q gb):
 if Region.wanted o (yielded ops a.tmps)then o.wp P a w K Q else K (a.put o.dst Go.undef) w:=by
 unfold us at af
 split at af
 .rename_i y g ai KB
  split at af
  .rename_i AX
   simp at af;subst af
   unfold km at aa
   split at aa
   .simp at aa
   rename_i tp
   have tp:pf t g=false:=by simpa using tp
   rw[asN a3 rfl KB tp]
   have he:=FY a3.rel aw
   split at aa
   .rename_i hw
    simp only at hw
    rw[hw,if_pos rfl]
    unfold Oper.wp
    split at aa
    .rename_i v oq fs
     simp at aa
     subst aa
     have key:rn P φ σ w a.eval o v oq:=by
      rcases AJ ai with⟨z,rfl,bB⟩|⟨z,rfl,bB⟩|bB
      .simp only[step]at fs
       obtain⟨u,hu,e⟩:=eY fs
       simp at e
       obtain⟨rfl,rfl⟩:=e
       obtain⟨v',ak,hv⟩:=SV he bB hu w
       exact⟨v',w,φ,.inl ak,cM.refl h,hv⟩
      .simp only[step]at fs
       obtain⟨⟨B,mk⟩,hu,e⟩:=eY fs
       simp at e
       obtain⟨rfl,rfl⟩:=e
       obtain⟨ha,DB⟩:=Th he bB hu
       obtain⟨v',obj,n,ak,ad,hv⟩:=DB w
       have bP:({w with heap:=w.heap.push obj}:World).heap[w.heap.size]? =some obj:=aM
       refine⟨v',_,φ.put σ.next ⟨w.heap.size,0,n⟩,.inl ak,cM.new (w':={w with heap:=w.heap.push obj}) h obj rfl rfl rfl B n ha (fun ec mQ=>(ad _ _ ec mQ bP).1) (ad _ _ φ (F.le_refl φ) bP).2,hv _ _ (by simp[F.put])⟩
      .exact azE h he bB fs
     obtain⟨v',w',cz,ak,fC,hv⟩:=key
     rcases ak with ak|⟨ak,rfl⟩
     .rw[ak,Oper.upon_value]
      exact jI _ _ _ fC ((a3.mono fC.ext).put AX hv)
     .rw[ak,Oper.upon_skip]
      exact jI _ _ _ fC ((a3.mono fC.ext).put AX hv)
    .rename_i f args oq fs
     obtain⟨r,hs,e⟩:=eY aa
     have bB:gZ P aQ o.op=some y:=by
      rcases AJ ai with⟨z,rfl,bB⟩|⟨z,rfl,bB⟩|bB
      .simp[step]at fs
      .simp[step]at fs
      .exact bB
     obtain⟨rfl,args',g1,fJ⟩:=av' h he (fun g=>rfl) bB hm fs
     obtain⟨Kv,azg⟩:=lA _ _ _ _ hs φ w args' h aw g1
     rw[fJ,Kv,Oper.upon_enter]
     refine azg.mono ?_
     cases r with
     |ret v wW=>
      simp only[ll.gb]at e;subst e
      rintro e w' ⟨v',cz,rfl,fC,hv⟩
      exact jI _ _ _ fC ((a3.mono fC.ext).put AX hv)
     |fN v wW=>
      simp only[ll.gb]at e;subst e
      rintro e w' ⟨v',cz,rfl,fC,hv⟩
      exact jI _ _ _ _ fC (a3.mono fC.ext) hv
    .rename_i v oq fs
     simp at aa
     subst aa
     have bB:gZ P aQ o.op=some y:=by
      rcases AJ ai with⟨z,rfl,bB⟩|⟨z,rfl,bB⟩|bB
      .simp[step]at fs
      .simp[step]at fs
      .exact bB
     obtain⟨rfl,v',hv,ak⟩:=aEy he bB fs w
     rw[ak,Oper.upon_panic]
     exact jI _ _ _ _ (cM.refl h) a3 hv
    .simp at aa
   .rename_i hw
    have hw:nX t g=false:=by simpa using hw
    simp at aa
    subst aa
    rw[hw]
    simp only[Bool.false_eq_true,if_false]
    exact jI _ _ _ (cM.refl h) (a3.put AX .undef)
  .simp at af
 .simp at af
theorem QL{ops:Array Oper}{m:iV}(hm:rq P m){call:Call}(lA:rj P aQ call){Q:Exit->Act->World->Prop}:
 ∀{l:List Oper} {l':List Op},mr (us P aQ cW ops) l=some l'->∀{φ:F} {σ:H} {w:World} {t:T V} {a:Act},Rel φ σ w->nZ φ aQ->jT φ cW ds t a->
  ∀{gb:kl},vA m call l' t σ=some gb->w1 φ cW ds σ w (Q .normal) Q gb->wpList P ops Q l a w
 |[],l',af,φ,σ,w,t,a,h,_,a3,gb,aa,jI=>by
  simp[mr]at af;subst af
  simp[vA]at aa
  subst aa
  exact jI _ _ _ (cM.refl h) a3
 |o::l,l',af,φ,σ,w,t,a,h,aw,a3,gb,aa,jI=>by
  simp only[mr]at af
  split at af
  .rename_i x r aj ak
   simp at af;subst af
   simp only[vA]at aa
   have fin:∀{L6:kl},km m call x t σ=some L6->w1 φ cW ds σ w (wpList P ops Q l) Q L6->wpList P ops Q (o::l) a w:=by
    intro L6 J U
    have:=FZ (K:=wpList P ops Q l) (Q:=Q) h aw a3 aj hm lA J U
    simp only[wpList]
    split
    .rename_i hw;rw[if_pos hw]at this;exact .inl this
    .rename_i hw;rw[if_neg hw]at this;exact this
   split at aa
   .rename_i t1 σ1 aB
    refine fin aB fun B_ cR dA fC Kb=>?_
    exact QL hm lA ak fC.rel (aw.mono fC.ext) Kb aa (jI.after fC)
   .rename_i bp
    refine fin aa ?_
    cases gb with
    |ok t1 σ1=>exact absurd aa (bp t1 σ1)
    |fN v t1 σ1=>exact jI
  .simp at af
end
end
section
def s6.q5:s6->List aG
 | .uU x| .wu x| .un _ x| .conv _ x| .D6 _ x| .fieldAddr _ x| .field _ _ _ x| .extract _ x| .Cu _ _ x| .uQ x| .LF x=>[x]
 | .pick c a b=>[c,a,b]
 | .build _ hk=>hk.map (·.2.2)
 | .arith _ x y| .shift _ x y| .eq _ _ x y| .zw _ x y| .GO _ _ x y| .Lo _ _ _ x y| .xX _ x y=>[x,y]
 | .zK _ a b=>a++b
 | .slice _ x fa aC=>x::(fa.toList++aC.toList)
 | .slice3 _ x fa aC iB=>x::aC::iB::fa.toList
def pq.q5:pq->List aG
 | .alloc _| .mkMap=>[]
 | .box x=>[x]
 | .ul _ _ _ hk=>hk.map (·.2.2)
 | .mkSlice _ _ _ a b=>[a,b]
def X.q5:X->List aG
 | .l x=>x.q5
 | .a x=>x.q5
 | .load _ _ u| .wm u| .vt _ u| .panic u=>[u]
 | .store _ u v| .yN _ u v| .lookup _ _ u v| .delete u v| .append _ _ u v| .copy _ u v=>[u,v]
 | .EZ _ _ x fa aC=>x::(fa.toList++aC.toList)
 | .update u v y=>[u,v,y]
 | .call _ args=>args
 | .pr f args=>f::args
 | .invoke _ r args=>r::args
section
variable{ρ sX:aG->V}
theorem Tk(hk:List (Nat×Nat×aG))(h:∀q∈hk.map (·.2.2),ρ q=sX q):(hk.map fun p=>(p.1,p.2.1,ρ p.2.2))=hk.map fun p=>(p.1,p.2.1,sX p.2.2):=
 List.map_congr_left fun p aB=>by rw[h _ (List.mem_map_of_mem aB)]
theorem D1(l:List aG)(h:∀q∈l,ρ q=sX q):l.map ρ=l.map sX:=List.map_congr_left h
theorem D2(o:Option aG)(h:∀q∈o.toList,ρ q=sX q):o.map ρ=o.map sX:=by
 cases o with
 |none=>rfl
 |some x=>simp[h x aM]
theorem asj(x:s6)(h:∀q∈x.q5,ρ q=sX q):gX ρ x=gX sX x:=by
 cases x<;>simp only[s6.q5]at h<;>simp only[gX]
 case build dt hk=>rw[Tk hk h]
 case zK f a b=>rw[D1 a fun q av=>h q (by simp[av]),D1 b fun q av=>h q (by simp[av])]
 case slice z x fa aC=>rw[h x aM,D2 fa fun q av=>h q (by simp at av;simp[av]),D2 aC fun q av=>h q (by simp at av;simp[av])]
 case slice3 z x fa aC iB=>rw[h x aM,h aC aM,h iB aM,D2 fa fun q av=>h q (by simp at av;simp[av])]
 all_goals simp_all
theorem asi(x:pq)(h:∀q∈x.q5,ρ q=sX q):nT ρ x=nT sX x:=by
 cases x<;>simp only[pq.q5]at h<;>simp only[nT]
 case ul l z dt hk=>rw[Tk hk h]
 all_goals simp_all
theorem asl(m:iV)(σ:H)(x:X)(h:∀q∈x.q5,ρ q=sX q):step m σ ρ x=step m σ sX x:=by
 cases x<;>simp only[X.q5]at h<;>simp only[step]
 case l x=>rw[asj x h]
 case a x=>rw[asi x h]
 case EZ n z x fa aC=>rw[h x aM,D2 fa fun q av=>h q (by simp at av;simp[av]),D2 aC fun q av=>h q (by simp at av;simp[av])]
 case call f l=>rw[D1 l h]
 case pr f l=>rw[h f aM,D1 l fun q av=>h q (by simp[av])]
 case invoke n r l=>rw[h r aM,D1 l fun q av=>h q (by simp[av])]
 all_goals simp_all
end
def Op.re(o:Op)(x:Nat):Bool:=
 o.x.q5.any (fun q=>match q with| .t y=>y==x| .c _=>false) || (match o.g with|some (y,_)=>y==x|none=>false)
theorem aIN{o:Op}{q:aG}(av:q∈o.x.q5){x:Nat}(e:q= .t x):o.re x=true:=by
 simp only[Op.re,Bool.or_eq_true,List.any_eq_true]
 exact .inl ⟨q,av,by rw[e];simp⟩
theorem Cr{o:Op}{t t₂:T V}(h:∀x,o.re x=true->aW t (.t x)=aW t₂ (.t x)):∀q∈o.x.q5,aW t q=aW t₂ q:=by
 intro q av
 cases q with
 |t x=>exact h x (aIN av rfl)
 |c v=>rfl
theorem I3{o:Op}{t t₂:T V}(h:∀x,o.re x=true->aW t (.t x)=aW t₂ (.t x)):nX t o.g=nX t₂ o.g:=by
 cases aw:o.g with
 |none=>rfl
 |some p=>
  obtain⟨y,b⟩:=p
  have:=h y (by simp[Op.re,aw])
  simp only[nX,this]
theorem I2{o:Op}{t t₂:T V}(h:∀x,o.re x=true->aW t (.t x)=aW t₂ (.t x)):pf t o.g=pf t₂ o.g:=by
 cases aw:o.g with
 |none=>rfl
 |some p=>
  obtain⟨y,b⟩:=p
  have:=h y (by simp[Op.re,aw])
  simp only[pf,this]
def bit(M:List Nat)(i k:Nat):Bool:=(M.getD i 0).testBit k
def sL(o:Oper):List Nat:=(o.after.toList.filter (Region.binds .any)).map (·.on)
def LS(M:List Nat)(l:List Nat):Nat:=l.foldl (fun s p=>s |||2 ^ p |||M.getD p 0) 0
def s8(M:List Nat):Nat->List Oper->Bool
 |_,[]=>true
 |i,o::r=>decide (M.getD i 0=LS M (sL o))&&(sL o).all (fun p=>decide (p<i))&&s8 M (i+1) r
theorem Tl(M:List Nat):∀(l:List Nat) (s k:Nat),(l.foldl (fun s p=>s |||2 ^ p |||M.getD p 0) s).testBit k=true->s.testBit k=true\/∃p∈l,p=k\/bit M p k=true
 |[],s,k,h=>.inl h
 |p::l,s,k,h=>by
  simp only[List.foldl_cons]at h
  rcases Tl M l _ k h with h|⟨q,av,h⟩
  .simp only[Nat.testBit_or,Bool.or_eq_true]at h
   rcases h with(h|h)|h
   .exact .inl h
   .refine .inr ⟨p,aM,.inl ?_⟩
    rw[Nat.testBit_two_pow]at h
    simpa using h
   .exact .inr ⟨p,aM,.inr h⟩
  .exact .inr ⟨q,by simp[av],h⟩
theorem Jm{M:List Nat}:∀{l:List Oper} {i:Nat},s8 M i l=true->∀(k:Nat) o,l[k]? =some o->M.getD (i+k) 0=LS M (sL o)/\∀p∈sL o,p<i+k
 |[],_,_,k,o,h=>by simp at h
 |o::l,i,af,k,mT,h=>by
  simp only[s8,Bool.and_eq_true,decide_eq_true_eq,List.all_eq_true]at af
  cases k with
  |zero=>simp at h;subst h;exact⟨af.1.1,af.1.2⟩
  |succ k=>
   have:=Jm af.2 k mT (by simpa using h)
   rw[show i+1+k=i+(k+1)from I]at this
   exact this
theorem I4{M:List Nat}{ops:Array Oper}(af:s8 M 0 ops.toList=true){S:Nat->Prop}(vE:∀(i:Nat) o,ops[i]? =some o->S i->∀p∈sL o,S p):
 ∀(i:Nat) o,ops[i]? =some o->(∀p∈sL o,S p)->∀k,bit M i k=true->S k:=by
 intro i
 induction i using Nat.strongRecOn with
 |_ i c0=>
  intro o au aB k ah
  obtain⟨J,U⟩:=Jm af i o (by simpa using au)
  simp only[Nat.zero_add]at J U
  unfold bit at ah
  rw[J]at ah
  rcases Tl M _ _ _ ah with h|⟨p,fi,h⟩
  .simp at h
  .rcases h with rfl|h
   .exact aB p fi
   .have ap:=U p fi
    cases mf:ops[p]? with
    |none=>
     have aC:i<ops.size:=by
      rcases Nat.lt_or_ge i ops.size with ay|ay
      .exact ay
      .simp[Array.getElem?_eq_none ay]at au
     have:p<ops.size:=I
     simp[this]at mf
    |some mT=>exact c0 p ap mT mf (vE p mT mf (aB p fi)) k h
def Mg(M:List Nat)(a b:dg):Bool:=
 decide (a.idx≠b.idx)&&(match a.o.dst,b.o.dst with|some d,some e=>decide (d≠e)|_,_=>true)&&
 (match a.o.dst with|some d=> !(b.o.re d) || bit M b.idx a.idx|none=>true)&&
 (match b.o.dst with|some d=> !(a.o.re d) || bit M b.idx a.idx|none=>true)&&
 (!b.f_ || bit M b.idx a.idx)
def FR(M:List Nat):List dg->Bool
 |[]=>true
 |a::r=>r.all (Mg M a)&&FR M r
theorem Qa{M:List Nat}:∀{l:List dg},FR M l=true->∀(p q:Nat) a b,p<q->l[p]? =some a->l[q]? =some b->Mg M a b=true
 |[],_,p,q,a,b,_,h,_=>by simp at h
 |x::l,af,p,q,a,b,ap,a3,ad=>by
  simp only[FR,Bool.and_eq_true,List.all_eq_true]at af
  cases q with
  |zero=>omega
  |succ q=>
   have ad:l[q]? =some b:=by simpa using ad
   cases p with
   |zero=>simp at a3;subst a3;exact af.1 b (List.mem_of_getElem? ad)
   |succ p=>exact Qa af.2 p q a b I (by simpa using a3) ad
def SC:X->Bool
 | .load _ _ _=>true
 |_=>false
def FQ(M:List Nat):List dg->List dg->Bool
 |_,[]=>true
 |hv,i::r=>(i.f_ || !SC i.o.x || (decide (1<=i.back)&&(match hv[i.back-1]? with|some h=>bit M i.idx h.idx|none=>true)))&&FQ M (if i.f_ then i::hv else hv) r
def P_(n:Nat)(bQ:List dg):Bool:=decide (bQ.length=n)&&bQ.all (fun i=>decide (i.idx<n))&&(List.range n).all (fun k=>bQ.any (fun i=>decide (i.idx=k)))
def yI(M:List Nat)(ops:Array Oper)(bQ:List dg):Bool:=s8 M 0 ops.toList&&FR M bQ&&FQ M [] bQ&&P_ ops.size bQ&&bQ.all (fun i=>decide (i.jx=M.getD i.idx 0))
def By(ops:Array Oper):List Nat:=ops.toList.foldl (fun M o=>M++[LS M (sL o)]) []
def CN:X->Bool
 | .l _| .a _| .load _ _ _=>true
 |_=>false
def T'(M:List Nat)(hv:List Bool):List Nat:=
 let all:=List.range hv.length
 let out:=(all.filter fun i=>hv.getD i false).foldl (fun acc h=>acc++(all.filter fun f=> !hv.getD f false&&bit M h f&& !acc.contains f)++[h]) []
 out++all.filter fun f=> !out.contains f
def zy(M:List Nat)(xs:List Op):List Nat->List Nat->List dg
 |_,[]=>[]
 |hv,i::r=>match xs[i]? with
  |some o=>if CN o.x then⟨i,o,false,(hv.takeWhile fun h=> !bit M i h).length+1,M.getD i 0⟩::zy M xs hv r else⟨i,o,true,0,M.getD i 0⟩::zy M xs (i::hv) r
  |none=>[]
def Js(P:Program)(aQ:List Nat)(cW:Nat)(ops:Array Oper):Option (List dg):=
 match mr (us P aQ cW ops) ops.toList with
 |none=>none
 |some xs=>if yI (By ops) ops (zy (By ops) xs [] (T' (By ops) (xs.map fun o=> !CN o.x)))=true then some (zy (By ops) xs [] (T' (By ops) (xs.map fun o=> !CN o.x)))else none
theorem GV{M:List Nat}{xs:List Op}:∀{l hv:List Nat} {i:dg},i∈zy M xs hv l->xs[i.idx]? =some i.o/\i.f_= !CN i.o.x
 |[],_,i,h=>by simp[zy]at h
 |k::l,hv,i,h=>by
  simp only[zy]at h
  split at h
  .rename_i o au
   split at h
   .rename_i aV
    rcases List.mem_cons.1 h with rfl|h
    .exact⟨au,by simp[aV]⟩
    .exact GV h
   .rename_i aV
    rcases List.mem_cons.1 h with rfl|h
    .exact⟨au,by simp[aV]⟩
    .exact GV h
  .simp at h
theorem T6{α β:Type}{f:α->Option β}:∀{l:List α} {r:List β},mr f l=some r->∀(i:Nat) b,r[i]? =some b->∃x,l[i]? =some x/\f x=some b
 |[],r,h,i,b,ad=>by simp[mr]at h;subst h;simp at ad
 |x::l,r,h,i,b,ad=>by
  simp only[mr]at h
  split at h
  .rename_i b0 hl a5 ak
   simp at h;subst h
   cases i with
   |zero=>simp at ad;subst ad;exact⟨x,aM,a5⟩
   |succ i=>exact T6 ak i b (by simpa using ad)
  .simp at h
end
section
theorem V.aG':∀n,(∀a b,V.same n a b=true->a=b)/\∀a b,V.r1 n a b=true->a=b:=by
 intro n
 induction n with
 |zero=>exact⟨fun a b h=>by cases a<;>cases b<;>simp_all[V.same],fun a b h=>by cases a<;>cases b<;>simp_all[V.r1]⟩
 |succ n c0=>
  refine⟨fun a b h=>?_,fun a b h=>?_⟩
  .cases a<;>cases b<;>simp[V.same]at h |- <;>first|exact h|exact c0.2 _ _ h|exact⟨h.1,c0.1 _ _ h.2⟩|exact⟨h.1.1.1.1,h.1.1.1.2,h.1.1.2,h.1.2,h.2⟩|exact⟨h.1.1,c0.2 _ _ h.1.2,c0.2 _ _ h.2⟩
  .cases a<;>cases b<;>simp[V.r1]at h |-;exact⟨c0.1 _ _ h.1,c0.2 _ _ h.2⟩
theorem V.aHb(n:Nat)(a b:V)(h:V.same n a b=true):a=b:=(V.aG' n).1 a b h
theorem RA{n:Nat}{g:Bool}{a v:V}:∀{k:Nat} {cs:List H},held n g a v k cs=true->∀(r:Nat) σ,r<k->cs[r]? =some σ->oh σ n g a=some v
 |0,_,_,r,σ,ak,_=>I
 |k+1,[],h,r,σ,ak,mi=>by simp at mi
 |k+1,s::cs,h,r,σ,ak,mi=>by
  simp only[held,Bool.and_eq_true]at h
  cases r with
  |zero=>
   simp at mi;subst mi
   have J:=h.1
   split at J
   .rename_i u hu
    rw[V.aHb _ _ _ J]at hu;exact hu
   .simp at J
  |succ r=>exact RA h.2 r σ I (by simpa using mi)
section
variable{m:iV}{call:Call}
theorem axs{o:Op}{t t':T V}{σ σ':H}(h:km m call o t σ=some (.ok t' σ')):∃v,t'=dp t o.dst v:=by
 unfold km at h
 split at h
 .simp at h
 split at h
 .split at h
  .simp at h;exact⟨_,h.1.symm⟩
  .obtain⟨r,_,e⟩:=eY h
   cases r with
   |ret v oq=>simp[ll.gb]at e;exact⟨_,e.1⟩
   |fN v oq=>simp[ll.gb]at e
  .simp at h
  .simp at h
 .simp at h;exact⟨_,h.1.symm⟩
theorem axq{o:Op}{t t₂ t':T V}{σ σ':H}(a3:∀x,o.re x=true->aW t (.t x)=aW t₂ (.t x))(h:km m call o t σ=some (.ok t' σ')):∃v,t'=dp t o.dst v/\km m call o t₂ σ=some (.ok (dp t₂ o.dst v) σ'):=by
 unfold km at h |-
 rw[<-I2 a3,<-I3 a3,<-asl m σ o.x (Cr a3)]
 split at h
 .simp at h
 rename_i tp
 rw[if_neg tp]
 split at h
 .rename_i hw
  rw[if_pos hw]
  split at h
  .rename_i v oq fs
   simp at h
   obtain⟨rfl,rfl⟩:=h
   exact⟨v,rfl,aM⟩
  .rename_i f args oq fs
   obtain⟨r,af,e⟩:=eY h
   cases r with
   |ret v wW=>
    simp[ll.gb]at e
    obtain⟨rfl,rfl⟩:=e
    exact⟨v,rfl,by simp[af,ll.gb]⟩
   |fN v wW=>simp[ll.gb]at e
  .simp at h
  .simp at h
 .rename_i hw
  rw[if_neg hw]
  simp at h
  obtain⟨rfl,rfl⟩:=h
  exact⟨.undef,rfl,rfl⟩
theorem axr{o:Op}{t t₂ t':T V}{σ σ':H}{v:V}(a3:∀x,o.re x=true->aW t (.t x)=aW t₂ (.t x))(h:km m call o t σ=some (.fN v t' σ')):km m call o t₂ σ=some (.fN v t₂ σ'):=by
 unfold km at h |-
 rw[<-I2 a3,<-I3 a3,<-asl m σ o.x (Cr a3)]
 split at h
 .simp at h
 rename_i tp
 rw[if_neg tp]
 split at h
 .rename_i hw
  rw[if_pos hw]
  split at h
  .simp at h
  .rename_i f args oq fs
   obtain⟨r,af,e⟩:=eY h
   cases r with
   |ret v wW=>simp[ll.gb]at e
   |fN v wW=>
    simp[ll.gb]at e
    obtain⟨rfl,rfl,rfl⟩:=e
    simp[af,ll.gb]
  .rename_i v2 oq fs
   simp at h
   obtain⟨rfl,rfl,rfl⟩:=h
   simp
  .simp at h
 .simp at h
theorem axt{base:Nat}{i:dg}{t t':T V}{σ σ':H}{cs:List H}(h:qH base i t σ cs=some (t',σ')):∃v,t'=dp t i.o.dst v:=by
 unfold qH at h
 split at h
 .simp at h
 split at h
 .split at h
  .obtain⟨v,_,e⟩:=eY h
   simp at e;exact⟨_,e.1⟩
  .obtain⟨v,_,e⟩:=eY h
   simp at e;exact⟨_,e.1⟩
  .split at h
   .split at h
    .simp at h;exact⟨_,h.1.symm⟩
    .simp at h
   .simp at h
  .simp at h
 .simp at h;exact⟨_,h.1.symm⟩
abbrev uf:=Option (Nat×Nat×V×H)
def Live(eb:uf)(p:Nat)(i:dg):Prop:=match eb with
 |none=>True
 |some (hj,k,_,_)=>p<hj\/(hj<p/\i.f_=false/\i.jx.testBit k=false)
structure Ob(m:iV)(call:Call)(base:Nat)(bQ:List dg)(eb:uf)(bX:Nat->T V×H)(aa:Nat->List H):Prop where
 G':∀(p:Nat) i,bQ[p]? =some i->Live eb p i->i.f_=false->qH base i (bX p).1 (bX p).2 (aa p)=some (bX (p+1))
 Kd:∀(p:Nat) i,bQ[p]? =some i->Live eb p i->i.f_=true->km m call i.o (bX p).1 (bX p).2=some (.ok (bX (p+1)).1 (bX (p+1)).2)
 dead:∀(p:Nat) i,bQ[p]? =some i->¬Live eb p i->bX (p+1)=(dp (bX p).1 i.o.dst .undef,(bX p).2)
 cs:∀(p:Nat) i,bQ[p]? =some i->aa (p+1)=if i.f_ then(bX (p+1)).2::aa p else aa p
 fN:∀(hj k:Nat) v hN,eb=some (hj,k,v,hN)->∃ip t',bQ[hj]? =some ip/\ip.idx=k/\ip.f_=true/\km m call ip.o (bX hj).1 (bX hj).2=some (.fN v t' hN)
def NX(base k:Nat)(bQ:List dg)(t:T V)(σ:H)(cs:List H):Prop:=
    ∃(bX:Nat->T V×H) (aa:Nat->List H),bX 0=(t,σ)/\aa 0=cs/\∀(p:Nat) i,bQ[p]? =some i->
     ((i.f_=false/\i.jx.testBit k=false)->qH base i (bX p).1 (bX p).2 (aa p)=some (bX (p+1)))/\
     (¬(i.f_=false/\i.jx.testBit k=false)->bX (p+1)=(dp (bX p).1 i.o.dst .undef,(bX p).2))/\
     aa (p+1)=if i.f_ then(bX (p+1)).2::aa p else aa p
theorem Qk{base k:Nat}:∀{bQ:List dg} {t:T V} {σ:H} {cs:List H},yO base k bQ t σ cs=true->NX base k bQ t σ cs
 |[],t,σ,cs,_=>⟨fun _=>(t,σ),fun _=>cs,rfl,rfl,aM⟩
 |i::bQ,t,σ,cs,h=>by
  have go:∀{t':T V} {σ':H} {y_:List H},yO base k bQ t' σ' y_=true->((i.f_=false/\i.jx.testBit k=false)->qH base i t σ cs=some (t',σ'))->
   (¬(i.f_=false/\i.jx.testBit k=false)->(t',σ')=(dp t i.o.dst .undef,σ))->y_=(if i.f_ then σ'::cs else cs)->NX base k (i::bQ) t σ cs:=by
   intro t' σ' y_ ay J U aq
   obtain⟨bX,aa,cZ,aD,aJ⟩:=Qk ay
   refine⟨fun|0=>(t,σ)|p+1=>bX p,fun|0=>cs|p+1=>aa p,rfl,rfl,?_⟩
   intro p j ax
   cases p with
   |zero=>
    simp at ax;subst ax
    simp only[cZ,aD]
    exact⟨J,U,aq⟩
   |succ p=>exact aJ p j (by simpa using ax)
  simp only[yO]at h
  split at h
  .rename_i bd
   exact go h (by simp[bd]) (fun _=>rfl) (by simp[bd])
  .rename_i bd
   split at h
   .rename_i ad
    exact go h (by simp[ad]) (fun _=>rfl) (by simp[bd])
   .rename_i ad
    split at h
    .rename_i q av
     exact go h (fun _=>av) (fun az=>absurd ⟨by simpa using bd,by simpa using ad⟩ az) (by simp[bd])
    .simp at h
def kl.eb(bQ:List dg):kl->uf->(Nat->T V×H)->Prop
 | .ok t σ,eb,bX=>eb=none/\bX bQ.length=(t,σ)
 | .fN v _ σ,eb,_=>∃hj k,eb=some (hj,k,v,σ)
def N0(m:iV)(call:Call)(base:Nat)(bQ:List dg)(t:T V)(σ:H)(cs:List H)(gb:kl):Prop:=
    ∃(eb:uf) (bX:Nat->T V×H) (aa:Nat->List H),bX 0=(t,σ)/\aa 0=cs/\Ob m call base bQ eb bX aa/\gb.eb bQ eb bX
theorem SE{base:Nat}:∀{bQ:List dg} {t:T V} {σ:H} {cs:List H} {gb:kl},sm m call base bQ t σ cs=some gb->N0 m call base bQ t σ cs gb
 |[],t,σ,cs,gb,h=>by
  simp[sm]at h;subst h
  exact⟨none,fun _=>(t,σ),fun _=>cs,rfl,rfl,⟨aM,aM,aM,aM,aM⟩,rfl,rfl⟩
 |i::bQ,t,σ,cs,gb,h=>by
  have go:∀{t':T V} {σ':H} {y_:List H},sm m call base bQ t' σ' y_=some gb->(i.f_=false->qH base i t σ cs=some (t',σ'))->(i.f_=true->km m call i.o t σ=some (.ok t' σ'))->
   y_=(if i.f_ then σ'::cs else cs)->N0 m call base (i::bQ) t σ cs gb:=by
   intro t' σ' y_ ay J U aq
   obtain⟨eb,bX,aa,cZ,aD,ak,au⟩:=SE ay
   have cF:∀(p:Nat) j,Live (eb.map fun q=>(q.1+1,q.2)) (p+1) j↔Live eb p j:=by
    intro p j
    cases eb with
    |none=>simp[Live]
    |some q=>obtain⟨hj,k,v,hN⟩:=q;simp[Live]
   have rS:Live (eb.map fun q=>(q.1+1,q.2)) 0 i:=by
    cases eb with
    |none=>simp[Live]
    |some q=>obtain⟨hj,k,v,hN⟩:=q;simp[Live]
   refine⟨eb.map fun q=>(q.1+1,q.2),fun|0=>(t,σ)|p+1=>bX p,fun|0=>cs|p+1=>aa p,rfl,rfl,⟨?_,?_,?_,?_,?_⟩,?_⟩
   .intro p j ax aA bd
    cases p with
    |zero=>simp at ax;subst ax;simp only[cZ];exact J bd
    |succ p=>exact ak.G' p j (by simpa using ax) ((cF p j).1 aA) bd
   .intro p j ax aA bd
    cases p with
    |zero=>simp at ax;subst ax;simp only[cZ];exact U bd
    |succ p=>exact ak.Kd p j (by simpa using ax) ((cF p j).1 aA) bd
   .intro p j ax aA
    cases p with
    |zero=>simp at ax;subst ax;exact absurd rS aA
    |succ p=>exact ak.dead p j (by simpa using ax) fun h=>aA ((cF p j).2 h)
   .intro p j ax
    cases p with
    |zero=>simp at ax;subst ax;simp only[cZ,aD];exact aq
    |succ p=>exact ak.cs p j (by simpa using ax)
   .intro hj k v hN e
    cases eb with
    |none=>simp at e
    |some q=>
     obtain⟨aEL,a9,v',aMJ⟩:=q
     simp at e
     obtain⟨rfl,rfl,rfl,rfl⟩:=e
     obtain⟨ip,t2,cR,b7,fF,gx⟩:=ak.fN _ _ _ _ rfl
     exact⟨ip,t2,by simpa using cR,b7,fF,gx⟩
   .cases gb with
    |ok t2 oq=>
     obtain⟨rfl,e⟩:=au
     exact⟨rfl,e⟩
    |fN v t2 oq=>
     obtain⟨hj,k,rfl⟩:=au
     exact⟨hj+1,k,rfl⟩
  simp only[sm]at h
  split at h
  .rename_i bd
   split at h
   .rename_i t' σ' J
    exact go h (by simp[bd]) (fun _=>J) (by simp[bd])
   .rename_i v t2 σ' J
    split at h
    .rename_i aH
     simp at h;subst h
     obtain⟨bX,aa,cZ,aD,ak⟩:=Qk aH
     refine⟨some (0,i.idx,v,σ'),fun|0=>(t,σ)|p+1=>bX p,fun|0=>cs|p+1=>aa p,rfl,rfl,⟨?_,?_,?_,?_,?_⟩,0,i.idx,rfl⟩
     .intro p j ax aA bd
      cases p with
      |zero=>simp[Live]at aA
      |succ p=>
       simp[Live]at aA
       exact(ak p j (by simpa using ax)).1 aA
     .intro p j ax aA bd
      cases p with
      |zero=>simp[Live]at aA
      |succ p=>simp[Live,bd]at aA
     .intro p j ax aA
      cases p with
      |zero=>simp at ax;subst ax;simp only[cZ]
      |succ p=>
       refine(ak p j (by simpa using ax)).2.1 fun h=>aA ?_
       simp only[Live]
       exact .inr ⟨I,h⟩
     .intro p j ax
      cases p with
      |zero=>simp at ax;subst ax;simp[cZ,aD,bd]
      |succ p=>exact(ak p j (by simpa using ax)).2.2
     .intro hj k v2 hN e
      simp at e
      obtain⟨rfl,rfl,rfl,rfl⟩:=e
      exact⟨i,t2,aM,rfl,bd,J⟩
    .simp at h
   .simp at h
  .rename_i bd
   split at h
   .rename_i q J
    obtain⟨t',σ'⟩:=q
    exact go h (fun _=>J) (fun U=>absurd U bd) (by simp[bd])
   .simp at h
end
end
