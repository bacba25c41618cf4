/- Part of the proof of BatchOnce, for every input. -/
import Derived.Test.YtobokeclhlbnmaaGreatA6
set_option linter.all false
namespace Go.Abs
section
inductive bt where
 |al (ro:Bool) (vs:List V)
 |mp (ro:Bool) (es:List (V×V))
 |hole
def bt.r_(σ:H)(b:Nat):bt->Prop
 | .al ro vs=>j_ σ b ro vs
 | .mp ro es=>σ.get b=some (.map ro es)
 | .hole=>True
theorem bt.r_.congr{σ σ':H}{b:Nat}{c:bt}(h:c.r_ σ b)(e:σ'.get b=σ.get b):c.r_ σ' b:=by
 cases c with
 |al ro vs=>obtain⟨c,af,hv⟩:=h;exact⟨c,by rw[e,af],hv⟩
 |mp ro es=>exact e.trans h
 |hole=>trivial
abbrev G:=Nat->Option bt
def a1(g:G)(b:Nat)(c:bt):G:=fun i=>if b=i then some c else g i
def lF(g:G)(n k:Nat):G:=fun i=>if n<=i/\i<n+k then some .hole else g i
theorem bJ(g:G)(b:Nat)(c:bt)(i:Nat):a1 g b c i=if b=i then some c else g i:=rfl
theorem wb(g:G)(n k i:Nat):lF g n k i=if n<=i/\i<n+k then some .hole else g i:=rfl
theorem xM{g:G}{n k i:Nat}(h:i<n):lF g n k i=g i:=by rw[wb,if_neg I]
theorem KY{g:G}{n k i:Nat}(h:i<k):lF g n k (n+i)=some .hole:=by rw[wb,if_pos I]
theorem aK2{g:G}{n k:Nat}(h:0<k):lF g n k n=some .hole:=by rw[wb,if_pos I]
structure h3(α:Type) where
 q6:α->(Nat->Prop)->H->Prop
 loc:∀{a:α} {kn:Nat->Prop} {σ σ':H},q6 a kn σ->(∀b,kn b->σ'.get b=σ.get b)->q6 a kn σ'
variable{α:Type}(A:h3 α)(Γ:ph)
structure Sat(g:G)(n:Nat)(a:α)(σ:H):Prop where
 fresh:σ.fresh
 next:σ.next=n
 at_:∀b c,g b=some c->b<n/\c.r_ σ b
 a_:∃kn:Nat->Prop,A.q6 a kn σ/\∀b,kn b->b<n/\g b=none
abbrev cj(α:Type):=V->G->Nat->α->Prop
abbrev fp(α:Type):=T V->G->Nat->α->Prop
def ty(n:Nat)(K:cj α)(v:V)(σ:H):Prop:=∃g' n' a',n<=n'/\Sat A g' n' a' σ/\K v g' n' a'
def sG(n:Nat)(N:fp α)(t:T V)(σ:H):Prop:=∃g' n' a',n<=n'/\Sat A g' n' a' σ/\N t g' n' a'
def aR(f:FuncId)(args:List V)(g:G)(n:Nat)(a:α)(K:cj α):Prop:=∀σ,Sat A g n a σ->mZ Γ f args σ (ty A n K)
def bm(g:G)(n:Nat):Prop:=∀b c,g b=some c->b<n
def ni(g:G)(k:Nat)(agg:Bool):V->Option V
 | .ptr b o=>match g b with
   |some (.al _ vs)=>if agg=true then(if o+k<=vs.length then some (.agg ((vs.drop o).take k))else none)else if k=1 then vs[o]? else none
   |_=>none
 |_=>none
def om(g:G)(b o:Nat)(l:List V):Option G:=
 match g b with
 |some (.al false vs)=>if o+l.length<=vs.length/\l.all V.cell=true then some (a1 g b (.al false (nQ vs o l)))else none
 |_=>none
def q_(ρ:aG->V):pq->Option (bt×(Nat->V))
 | .alloc dt=>some (.al false dt,fun b=>.ptr b 0)
 | .box x=>if(ρ x).known=true then some (.al false (ρ x).cells,fun b=>.ptr b 0)else none
 | .ul len z dt hk=>if len*z<=16777216 then(pY (im dt len) (hk.map fun p=>(p.1,p.2.1,ρ p.2.2))).map fun al=>(.al false al,fun b=>.slice b 0 len len z)else none
 | .mkSlice z bytes dt l c=>match ρ l,ρ c with
   | .int .i64 a,.int .i64 b=>if 0<=a/\a<=b/\b<=1048576/\bytes<=1024 then some (.al false (im dt b.toNat),fun r=>.slice r 0 a.toNat b.toNat z)else none
   |_,_=>none
 | .mkMap=>some (.mp false [],fun b=>.map b)
def BQ(g:G):V->V->Option Bool
 | .ptr b o,.ptr b' mT=>if b=b' then some (o==mT)else
   match g b,g b' with
   |some (.al false _),some (.al false _)=>some false
   |_,_=>none
 |x,y=>sl .ptr x y
def yd(g:G)(z:Nat):V->Option (Nat×List V)
 | .br=>some (0,[])
 | .slice b o len _ z'=>if z'=z then(match g b with
   |some (.al _ vs)=>if o+len*z<=vs.length then some (len,(vs.drop o).take (len*z))else none
   |_=>none)else none
 |_=>none
def fY(g:G)(n z bytes:Nat)(s x:V):Option (V×G×Nat):=
 match yd g z x with
 |none=>none
 |some (m,new)=>
  match s with
  | .br=>if m=0 then some (.br,g,n)else if m<=1048576/\bytes<=1024 then some (.slice n 0 m m z,a1 g n (.al false new),n+1)else none
  | .slice b o len cap z'=>
    if z'≠z then none else
    if m=0 then some (.slice b o len cap z',g,n)else
    if len+m<=cap then(om g b (o+len*z) new).map fun g'=>(.slice b o (len+m) cap z,g',n)
    else if len+m<=1048576/\bytes<=1024/\new.all V.cell=true then
     match g b with
     |some (.al false vs)=>if o+len*z<=vs.length then some (.slice n 0 (len+m) (len+m) z,a1 (a1 g b .hole) n (.al false ((vs.drop o).take (len*z)++new)),n+1)else none
     |_=>none
    else none
  |_=>none
def FU(g:G)(z:Nat)(d s:V):Option (V×G):=
 match d,s with
 | .br,.br| .br,.slice _ _ _ _ _| .slice _ _ _ _ _,.br=>some (.int .i64 0,g)
 | .slice b o len _ r8,.slice b' mT qi _ ny=>
   if r8=z/\ny=z then
    match g b' with
    |some (.al _ vs)=>
     if mT+min qi len*z<=vs.length then
      if min qi len=0 then some (.int .i64 0,g)else(om g b o ((vs.drop mT).take (min qi len*z))).map fun g'=>(.int .i64 (min qi len:Nat),g')
     else none
    |_=>none
   else none
 |_,_=>none
def tE(m:iV)(g:G)(t:TypeId)(v:V)(name:String):Option (FuncId×V):=
 match m t name with
 |some (.fn f)=>some (f,v)
 |some .vz=>match ni g 1 false v with
  |some (.iface t' v')=>match m t' name with
   |some (.fn f)=>some (f,v')
   |_=>none
  |_=>none
 |none=>none
def cg(x:X)(K:cj α)(t:T V)(g:G)(n:Nat)(a:α):Prop:=
 match x with
 | .l x=>match gX (aW t) x with|some v=>K v g n a|none=>False
 | .a x=>match q_ (aW t) x with|some p=>K (p.2 n) (a1 g n p.1) (n+1) a|none=>False
 | .load k agg p=>match ni g k agg (aW t p)with|some v=>K v g n a|none=>False
 | .store k p v=>match aW t p with
   | .ptr b o=>if(aW t v).cells.length=k then(match om g b o (aW t v).cells with|some g'=>K .undef g' n a|none=>False)else False
   |_=>False
 | .call f args=>aR A Γ f (args.map (aW t)) g n a (fun v g' n' a'=>bm g' n'->K v g' n' a')
 | .pr f args=>match aW t f with
   | .fn (.func f) first cap=>aR A Γ f (first++args.map (aW t)++cap) g n a (fun v g' n' a'=>bm g' n'->K v g' n' a')
   |_=>False
 | .invoke name recv args=>match aW t recv with
   | .iface fk v=>match tE Γ.m g fk v name with
     |some p=>aR A Γ p.1 (p.2::args.map (aW t)) g n a (fun v g' n' a'=>bm g' n'->K v g' n' a')
     |none=>False
   |_=>False
 | .yN neg x y=>match BQ g (aW t x) (aW t y)with|some r=>K (.bool (if neg then !r else r)) g n a|none=>False
 | .lookup zero ok mp k=>match aW t mp with
   | .hC=>K (if ok then .bN [zero,.bool false]else zero) g n a
   | .map r=>match g r with
     |some (.mp _ es)=>match kF (aW t k) es with
      |some (some v)=>K (if ok then .bN [v,.bool true]else v) g n a
      |some none=>K (if ok then .bN [zero,.bool false]else zero) g n a
      |none=>False
     |_=>False
   |_=>False
 | .update mp k v=>match aW t mp with
   | .map r=>match g r with
     |some (.mp false es)=>match kF (aW t k) es with
      |some _=>K .undef (a1 g r (.mp false (nR (aW t k) (aW t v) es))) n a
      |none=>False
     |_=>False
   |_=>False
 | .delete mp k=>match aW t mp with
   | .map r=>match g r with
     |some (.mp false es)=>match kF (aW t k) es with
      |some _=>K (.bN []) (a1 g r (.mp false (mE (aW t k) es))) n a
      |none=>False
     |_=>False
   |_=>False
 | .wm mp=>match aW t mp with
   | .hC=>K (.int .i64 0) g n a
   | .map r=>match g r with
     |some (.mp _ es)=>K (.int .i64 es.length) g n a
     |_=>False
   |_=>False
 | .append z bytes s x=>match fY g n z bytes (aW t s) (aW t x)with|some p=>K p.1 p.2.1 p.2.2 a|none=>False
 | .copy z d s=>match FU g z (aW t d) (aW t s)with|some p=>K p.1 p.2 n a|none=>False
 | .vt dt x=>match aW t x with
   | .br=>K (.bN []) g n a
   | .slice b o len _ z=>if len=0 then K (.bN []) g n a else if z=dt.length then(match om g b o (im dt len)with|some g'=>K (.bN []) g' n a|none=>False)else False
   |_=>False
 |_=>False
def cI:List Op->fp α->fp α
 |[],N,t,g,n,a=>N t g n a
 |o::r,N,t,g,n,a=>
  match o.g with
  |none=>cg A Γ o.x (fun v g' n' a'=>cI r N (dp t o.dst v) g' n' a') t g n a
  |some (j,b)=>match aW t (.t j)with
   | .bool c=>if c=b then cg A Γ o.x (fun v g' n' a'=>cI r N (dp t o.dst v) g' n' a') t g n a else cI r N (dp t o.dst .undef) g n a
   | .any=>False
   |_=>cI r N (dp t o.dst .undef) g n a
def uD(k:Nat)(agg:Bool)(p v:V):Nat->List G->Prop
 |0,_=>True
 |j+1,g::r=>ni g k agg p=some v/\uD k agg p v j r
 |_+1,[]=>False
def gk(base len i back:Nat)(x:X)(K:V->G->Prop)(t:T V)(g:G)(cs:List G):Prop:=
 match x with
 | .l x=>match gX (aW t) x with|some v=>K v g|none=>False
 | .a x=>if i<len then(match q_ (aW t) x with|some p=>K (p.2 (base+i)) (a1 g (base+i) p.1)|none=>False)else False
 | .load k agg p=>match ni g k agg (aW t p)with
   |some v=>if back=0 then K v g else V.same 40 v v=true/\uD k agg (aW t p) v back cs/\K v g
   |none=>False
 |_=>False
def kB(base len:Nat)(g:G):Prop:=∀j,j<len->∃c,g (base+j)=some c
def aBG:X->Bool
 | .a _=>true
 |_=>false
def uj(l:List dg):Nat:=if l.any (fun i=> !i.f_&&aBG i.o.x)=true then l.length else 0
theorem au'(l:List dg):uj l<=l.length:=by
 unfold uj;split<;>omega
def cr(base len:Nat):List dg->fp α->T V->G->Nat->α->List G->Prop
 |[],N,t,g,n,a,_=>N t g n a
 |i::r,N,t,g,n,a,cs=>
  if i.f_=true then
   match i.o.g with
   |none=>cg A Γ i.o.x (fun v g' n' a'=>kB base len g'/\cr base len r N (dp t i.o.dst v) g' n' a' (g'::cs)) t g n a
   |some (j,b)=>match aW t (.t j)with
    | .bool c=>if c=b then cg A Γ i.o.x (fun v g' n' a'=>kB base len g'/\cr base len r N (dp t i.o.dst v) g' n' a' (g'::cs)) t g n a else cr base len r N (dp t i.o.dst .undef) g n a (g::cs)
    | .any=>False
    |_=>cr base len r N (dp t i.o.dst .undef) g n a (g::cs)
  else
   match i.o.g with
   |none=>gk base len i.idx i.back i.o.x (fun v g'=>cr base len r N (dp t i.o.dst v) g' n a cs) t g cs
   |some (j,b)=>match aW t (.t j)with
    | .bool c=>if c=b then gk base len i.idx i.back i.o.x (fun v g'=>cr base len r N (dp t i.o.dst v) g' n a cs) t g cs else cr base len r N (dp t i.o.dst .undef) g n a cs
    | .any=>False
    |_=>cr base len r N (dp t i.o.dst .undef) g n a cs
def b9:C->fp α->(Nat->fp α)->fp α->fp α
 | .skip,N,_,_,t,g,n,a=>N t g n a
 | .ao l,N,_,_,t,g,n,a=>cI A Γ l N t g n a
 | .draw l,N,_,_,t,g,n,a=>cr A Γ n (uj l) l N t (lF g n (uj l)) (n+l.length) a [lF g n (uj l)]
 | .seq x y,N,E,R,t,g,n,a=>b9 x (fun t g n a=>b9 y N E R t g n a) E R t g n a
 | .cond c x y,N,E,R,t,g,n,a=>match aW t c with
   | .bool b=>if b=true then b9 x N E R t g n a else b9 y N E R t g n a
   |_=>False
 | .block id c,N,E,R,t,g,n,a=>b9 c N (fun i t g n a=>if i=id then N t g n a else E i t g n a) R t g n a
 | .loop c,N,E,R,t,g,n,a=>∃Inv:Nat->fp α,(∃k,Inv k t g n a)/\∀k t g n a,Inv k t g n a->b9 c (fun t g n a=>∃a9,a9<k/\Inv a9 t g n a) E R t g n a
 | .exit id,_,E,_,t,g,n,a=>E id t g n a
 | .ret,_,_,R,t,g,n,a=>R t g n a
 | .oz _ _ _,_,_,_,_,_,_,_=>False
section
variable{A Γ}
variable{g:G}{n:Nat}{a:α}{σ:H}
theorem Sat.Ia(h:Sat A g n a σ){g':G}(aw:∀b c,g' b=some c->g b=some c):Sat A g' n a σ:=by
 refine⟨h.fresh,h.next,fun b c ad=>h.at_ b c (aw b c ad),?_⟩
 obtain⟨kn,J,U⟩:=h.a_
 refine⟨kn,J,fun b ad=>⟨(U b ad).1,?_⟩⟩
 cases aj:g' b with
 |none=>rfl
 |some c=>rw[<-(U b ad).2,aw b c aj]
theorem Sat.set(h:Sat A g n a σ){b:Nat}{dd c:bt}(ad:g b=some dd){B:jq}(af:c.r_ (σ.set b B) b):Sat A (a1 g b c) n a (σ.set b B):=by
 have ap:=(h.at_ b dd ad).1
 refine⟨Q1 h.fresh (by rw[h.next];exact ap) B,h.next,fun b' c' eN=>?_,?_⟩
 .rw[bJ]at eN
  split at eN
  .rename_i e;subst e
   simp only[Option.some.injEq]at eN;subst eN
   exact⟨ap,af⟩
  .rename_i e
   have:=h.at_ b' c' eN
   exact⟨this.1,this.2.congr (by rw[k1,if_neg e])⟩
 .obtain⟨kn,J,U⟩:=h.a_
  have bp:∀b',kn b'->¬b=b':=fun b' aV e=>by
   subst e;rw[(U b aV).2]at ad;simp at ad
  exact⟨kn,A.loc J fun b' aV=>by rw[k1,if_neg (bp b' aV)],fun b' aV=>⟨(U b' aV).1,by rw[bJ,if_neg (bp b' aV)];exact(U b' aV).2⟩⟩
theorem Sat.new(h:Sat A g n a σ){c:bt}{B:jq}(af:c.r_ (σ.new B) n):Sat A (a1 g n c) (n+1) a (σ.new B):=by
 have az:=h.next
 refine⟨QZ h.fresh B,by rw[LY,az],fun b' c' eN=>?_,?_⟩
 .rw[bJ]at eN
  split at eN
  .rename_i e;subst e
   simp only[Option.some.injEq]at eN;subst eN
   exact⟨Nat.lt_succ_self _,af⟩
  .have:=h.at_ b' c' eN
   exact⟨Nat.lt_succ_of_lt this.1,this.2.congr (by rw[pZ,if_neg I])⟩
 .obtain⟨kn,J,U⟩:=h.a_
  exact⟨kn,A.loc J fun b' aV=>by rw[pZ,if_neg (by have:=(U b' aV).1;omega)],fun b' aV=>⟨Nat.lt_succ_of_lt (U b' aV).1,by rw[bJ,if_neg (by have:=(U b' aV).1;omega)];exact(U b' aV).2⟩⟩
theorem Sat.kill(h:Sat A g n a σ){b:Nat}{dd:bt}(ad:g b=some dd):Sat A (a1 g b .hole) n a (σ.kill b):=by
 have ap:=(h.at_ b dd ad).1
 refine⟨QY h.fresh b,h.next,fun b' c' eN=>?_,?_⟩
 .rw[bJ]at eN
  split at eN
  .rename_i e;subst e
   simp only[Option.some.injEq]at eN;subst eN
   exact⟨ap,trivial⟩
  .rename_i e
   have:=h.at_ b' c' eN
   exact⟨this.1,this.2.congr (by rw[xr,if_neg e])⟩
 .obtain⟨kn,J,U⟩:=h.a_
  have bp:∀b',kn b'->¬b=b':=fun b' aV e=>by
   subst e;rw[(U b aV).2]at ad;simp at ad
  exact⟨kn,A.loc J fun b' aV=>by rw[xr,if_neg (bp b' aV)],fun b' aV=>⟨(U b' aV).1,by rw[bJ,if_neg (bp b' aV)];exact(U b' aV).2⟩⟩
theorem Sat.room(h:Sat A g n a σ)(k:Nat):Sat A (lF g n k) (n+k) a (σ.room k):=by
 have az:=h.next
 refine⟨Q0 h.fresh k,by rw[LZ,az],fun b' c' eN=>?_,?_⟩
 .rw[wb]at eN
  split at eN
  .rename_i e
   simp only[Option.some.injEq]at eN;subst eN
   exact⟨I,trivial⟩
  .have:=h.at_ b' c' eN
   exact⟨I,this.2.congr (F4 _ _ _)⟩
 .obtain⟨kn,J,U⟩:=h.a_
  exact⟨kn,A.loc J fun b' aV=>F4 _ _ _,fun b' aV=>⟨by have:=(U b' aV).1;omega,by rw[wb,if_neg (by have:=(U b' aV).1;omega)];exact(U b' aV).2⟩⟩
theorem EV:∀(l vs:List V) (o:Nat),o+l.length<=vs.length->nQ vs o l=vs.take o++l++vs.drop (o+l.length)
 |[],vs,o,_=>by simp[nQ]
 |v::l,vs,o,h=>by
  simp only[List.length_cons]at h
  simp only[nQ]
  rw[EV l (vs.set o v) (o+1) (by simp;omega)]
  have au:o<vs.length:=I
  rw[List.take_set,List.drop_set_of_lt I]
  have aD:(List.take (o+1) vs).set o v=vs.take o++[v]:=by
   rw[List.take_succ_eq_append_getElem au,List.set_append_right _ _ (by rw[List.length_take];omega)]
   simp[Nat.min_eq_left (Nat.le_of_lt au)]
  rw[aD]
  have aJ:o+1+l.length=o+(v::l).length:=by simp;omega
  rw[aJ];simp
theorem Sat.load(h:Sat A g n a σ){k:Nat}{agg:Bool}{p v:V}(aA:ni g k agg p=some v):oh σ k agg p=some v:=by
 cases p<;>simp only[ni]at aA<;>try simp at aA
 rename_i b o
 split at aA<;>try simp at aA
 rename_i ro vs ad
 have o6:j_ σ b ro vs:=(h.at_ b _ ad).2
 simp only[oh]
 split at aA
 .rename_i uz
  split at aA
  .rename_i ah
   simp only[Option.some.injEq]at aA
   rw[o6.load ah];simp[uz,aA]
  .simp at aA
 .rename_i uz
  split at aA
  .rename_i ah;subst ah
   rw[o6.S5 aA];simp[uz]
  .simp at aA
theorem r_.load{g:G}{σ:H}(h:∀b c,g b=some c->c.r_ σ b){k:Nat}{agg:Bool}{p v:V}(aA:ni g k agg p=some v):oh σ k agg p=some v:=by
 cases p<;>simp only[ni]at aA<;>try simp at aA
 rename_i b o
 split at aA<;>try simp at aA
 rename_i ro vs ad
 have o6:j_ σ b ro vs:=(h b _ ad)
 simp only[oh]
 split at aA
 .rename_i uz
  split at aA
  .rename_i ah
   simp only[Option.some.injEq]at aA
   rw[o6.load ah];simp[uz,aA]
  .simp at aA
 .rename_i uz
  split at aA
  .rename_i ah;subst ah
   rw[o6.S5 aA];simp[uz]
  .simp at aA
theorem Sat.store(h:Sat A g n a σ){b o:Nat}{l:List V}{g':G}(aA:om g b o l=some g'):∃σ',σ.pe b o l=some σ'/\Sat A g' n a σ':=by
 simp only[om]at aA
 split at aA<;>try simp at aA
 rename_i vs ad
 obtain⟨⟨J,U⟩,rfl⟩:=aA
 have o6:j_ σ b false vs:=(h.at_ b _ ad).2
 obtain⟨c,af,hv⟩:=o6
 refine⟨_,asm af J (List.all_eq_true.2 U),h.set ad ?_⟩
 have:=L5 (σ:=σ) (b:=b) rfl hv l J
 rw[<-EV l vs o J]at this
 exact this
theorem ash{ρ:aG->V}{x:pq}{p:bt×(Nat->V)}(h:q_ ρ x=some p):∃B,nT ρ x=some (B,p.2)/\∀(σ:H) b,σ.get b=some B->p.1.r_ σ b:=by
 cases x with
 |alloc dt=>
  simp only[q_,Option.some.injEq]at h;subst h
  exact⟨_,rfl,fun σ b ad=>Eb ad rfl⟩
 |box x=>
  simp only[q_]at h
  split at h
  .rename_i ah
   simp only[Option.some.injEq]at h;subst h
   exact⟨nB (ρ x).cells,by simp only[nT,ah,if_true],fun σ b ad=>Eb ad rfl⟩
  .simp at h
 |ul len z dt hk=>
  simp only[q_]at h
  split at h
  .rename_i ah
   cases aV:pY (im dt len) (hk.map fun p=>(p.1,p.2.1,ρ p.2.2))with
   |none=>rw[aV]at h;simp at h
   |some al=>
    rw[aV]at h
    simp only[Option.map_some,Option.some.injEq]at h;subst h
    exact⟨nB al,by simp only[nT,ah,if_true,aV,Option.map_some],fun σ b ad=>Eb ad rfl⟩
  .simp at h
 |mkSlice z bytes dt l c=>
  simp only[q_]at h
  split at h<;>try simp at h
  rename_i x y aj ai
  obtain⟨J,rfl⟩:=h
  exact⟨nB (im dt y.toNat),by simp only[nT,aj,ai];rw[if_pos J],fun σ b ad=>Eb ad rfl⟩
 |mkMap=>
  simp only[q_,Option.some.injEq]at h;subst h
  exact⟨_,rfl,fun σ b ad=>ad⟩
theorem Sat.src(h:Sat A g n a σ){z:Nat}{x:V}{p:Nat×List V}(aA:yd g z x=some p):tP σ z x=some p:=by
 cases x<;>simp only[yd]at aA<;>try simp at aA
 .rename_i b o len cap z'
  obtain⟨rfl,aA⟩:=aA
  split at aA<;>try simp at aA
  rename_i ro vs ad
  obtain⟨J,rfl⟩:=aA
  have o6:j_ σ b ro vs:=(h.at_ b _ ad).2
  simp only[tP,if_true,o6.load J,Option.map_some]
 .subst aA;rfl
theorem Sat.append(h:Sat A g n a σ){z bytes:Nat}{s x:V}{p:V×G×Nat}(aA:fY g n z bytes s x=some p):∃σ',ow σ z bytes s x=some (p.1,σ')/\n<=p.2.2/\Sat A p.2.1 p.2.2 a σ':=by
 simp only[fY]at aA
 split at aA
 .simp at aA
 rename_i m new K_
 have DJ:=h.src K_
 have az:=h.next
 split at aA
 .split at aA
  .rename_i hm
   simp only[Option.some.injEq]at aA;subst aA
   exact⟨σ,by simp only[ow,DJ,if_pos hm],Nat.le_refl _,h⟩
  .rename_i hm
   split at aA
   .rename_i af
    simp only[Option.some.injEq]at aA;subst aA
    refine⟨_,by simp only[ow,DJ,if_neg hm,if_pos af,az];rfl,Nat.le_succ _,h.new ?_⟩
    have:=Hm (σ:=σ) (l:=new)
    rw[az]at this
    exact this
   .simp at aA
 .rename_i b o len cap z'
  split at aA
  .simp at aA
  rename_i bB
  have bB:z'=z:=Decidable.not_not.1 bB
  subst bB
  split at aA
  .rename_i hm
   simp only[Option.some.injEq]at aA;subst aA
   exact⟨σ,by simp only[ow,DJ,if_pos hm];simp,Nat.le_refl _,h⟩
  .rename_i hm
   split at aA
   .rename_i af
    cases aa:om g b (o+len*z') new with
    |none=>rw[aa]at aA;simp at aA
    |some g'=>
     rw[aa]at aA
     simp only[Option.map_some,Option.some.injEq]at aA;subst aA
     obtain⟨σ',J,U⟩:=h.store aa
     exact⟨σ',by simp only[ow,DJ,if_neg hm,if_pos af,J];simp,Nat.le_refl _,U⟩
   .rename_i af
    split at aA
    .rename_i ah
     split at aA<;>try simp at aA
     rename_i vs ad
     obtain⟨J,rfl⟩:=aA
     have o6:j_ σ b false vs:=(h.at_ b _ ad).2
     obtain⟨c,aw,hv⟩:=id o6
     refine⟨(σ.kill b).new (nB ((vs.drop o).take (len*z')++new)),?_,Nat.le_succ _,?_⟩
     .simp only[ow,DJ,if_neg hm,if_neg af,if_pos ah,aw,o6.load J,az];simp
     .refine(h.kill ad).new ?_
      have:=Hm (σ:=σ.kill b) (l:=(vs.drop o).take (len*z')++new)
      rw[LX,az]at this
      exact this
    .simp at aA
 .simp at aA
theorem Sat.copy(h:Sat A g n a σ){z:Nat}{d s:V}{p:V×G}(aA:FU g z d s=some p):∃σ',copyV σ z d s=some (p.1,σ')/\Sat A p.2 n a σ':=by
 unfold FU at aA
 split at aA
 .simp only[Option.some.injEq]at aA;subst aA;exact⟨σ,rfl,h⟩
 .simp only[Option.some.injEq]at aA;subst aA;exact⟨σ,rfl,h⟩
 .simp only[Option.some.injEq]at aA;subst aA;exact⟨σ,rfl,h⟩
 .rename_i b o len cap r8 b' mT qi gG ny
  split at aA
  .rename_i bB
   split at aA
   .rename_i ro vs ad
    split at aA
    .rename_i hle
     have o6:j_ σ b' ro vs:=(h.at_ b' _ ad).2
     split at aA
     .rename_i a5
      simp only[Option.some.injEq]at aA;subst aA
      exact⟨σ,by simp only[copyV,if_pos bB,o6.load hle,if_pos a5],h⟩
     .rename_i a5
      cases aa:om g b o ((vs.drop mT).take (min qi len*z))with
      |none=>rw[aa]at aA;simp at aA
      |some g'=>
       rw[aa]at aA
       simp only[Option.map_some,Option.some.injEq]at aA;subst aA
       obtain⟨σ',J,U⟩:=h.store aa
       exact⟨σ',by simp only[copyV,if_pos bB,o6.load hle,if_neg a5,J,Option.map_some],U⟩
    .simp at aA
   .simp at aA
  .simp at aA
 .simp at aA
theorem Sat.uS(h:Sat A g n a σ){m:iV}{fk:TypeId}{v:V}{name:String}{p:FuncId×V}(aA:tE m g fk v name=some p):uS m σ fk v name=some p:=by
 simp only[tE]at aA
 simp only[Go.Abs.uS]
 split at aA
 .rename_i f aV;simp only[aV];exact aA
 .rename_i aV
  simp only[aV]
  split at aA
  .rename_i t' v' hv
   simp only[h.load hv];exact aA
  .simp at aA
 .simp at aA
theorem Sat.ptrEq(h:Sat A g n a σ){x y:V}{r:Bool}(aA:BQ g x y=some r):ptrEq σ x y=some r:=by
 unfold BQ at aA
 split at aA
 .rename_i b o b' mT
  split at aA
  .rename_i e;simp only[Go.Abs.ptrEq,if_pos e];exact aA
  .rename_i e
   split at aA
   .rename_i J U
    obtain⟨c,af,_⟩:=(h.at_ b _ J).2
    obtain⟨c',lS,_⟩:=(h.at_ b' _ U).2
    simp only[Go.Abs.ptrEq,if_neg e,af,lS];exact aA
   .simp at aA
 .rename_i bp
  unfold Go.Abs.ptrEq
  split
  .exact(bp _ _ _ _ rfl rfl).elim
  .exact aA
theorem ty.lt{K:cj α}{n:Nat}(v:V)(σ:H):ty A n (fun v g' n' a'=>bm g' n'->K v g' n' a') v σ->ty A n K v σ:=fun⟨g',n',a',hle,aa,ah⟩=>⟨g',n',a',hle,aa,ah fun b c ad=>(aa.at_ b c ad).1⟩
theorem ty.of{K:cj α}{v:V}{bR:Nat}(az:bR<=n)(h:Sat A g n a σ)(ah:K v g n a):ty A bR K v σ:=⟨g,n,a,az,h,ah⟩
theorem aJt{Γ:ph}{K:V->H->Prop}{t:T V}(mp k v:aG){r:Nat}{es:List (V×V)}{o:Option V}(J:aW t mp= .map r)(U:σ.get r=some (.map false es))(aq:kF (aW t k) es=some o):gE Γ (.update mp k v) K t σ=K .undef (σ.set r (.map false (nR (aW t k) (aW t v) es))):=by
 rw[aJs,J];simp only[U,aq]
theorem aJl{Γ:ph}{K:V->H->Prop}{t:T V}(mp k:aG){r:Nat}{es:List (V×V)}{o:Option V}(J:aW t mp= .map r)(U:σ.get r=some (.map false es))(aq:kF (aW t k) es=some o):gE Γ (.delete mp k) K t σ=K (.bN []) (σ.set r (.map false (mE (aW t k) es))):=by
 rw[aJk,J];simp only[U,aq]
theorem ass{x:X}{K:cj α}{t:T V}(h:cg A Γ x K t g n a)(aa:Sat A g n a σ):gE Γ x (ty A n K) t σ:=by
 have az:=aa.next
 cases x
 case l x=>
  simp only[cg]at h
  rw[aJn]
  split at h
  .rename_i v hv
   rw[hv]
   exact⟨g,n,a,Nat.le_refl _,aa,h⟩
  .exact h.elim
 case a x=>
  simp only[cg]at h
  rw[aJf]
  split at h
  .rename_i p aB
   obtain⟨B,J,U⟩:=ash aB
   rw[J]
   simp only[az]
   exact⟨_,_,_,Nat.le_succ _,aa.new (U _ _ (by rw[pZ,if_pos az])),h⟩
  .exact h.elim
 case load k agg p=>
  simp only[cg]at h
  rw[aJp]
  split at h
  .rename_i v hv
   rw[aa.load hv]
   exact⟨g,n,a,Nat.le_refl _,aa,h⟩
  .exact h.elim
 case store k p v=>
  simp only[cg]at h
  rw[aJr]
  split at h
  .rename_i b o aB
   simp only[aB]
   split at h
   .rename_i ah
    split at h
    .rename_i g' aw
     obtain⟨σ',J,U⟩:=aa.store aw
     simp only[ah,if_true,J]
     exact⟨g',n,a,Nat.le_refl _,U,h⟩
    .exact h.elim
   .exact h.elim
  .exact h.elim
 case call f args=>
  simp only[cg]at h
  rw[aJh]
  exact mZ.mono (h σ aa) ty.lt
 case pr f args=>
  simp only[cg]at h
  rw[asX]
  split at h
  .rename_i cn x y aV
   simp only[aV]
   exact mZ.mono (h σ aa) ty.lt
  .exact h.elim
 case invoke name recv args=>
  simp only[cg]at h
  rw[asY]
  split at h
  .rename_i fk v hv
   simp only[hv]
   split at h
   .rename_i p aB
    rw[aa.uS aB]
    exact mZ.mono (h σ aa) ty.lt
   .exact h.elim
  .exact h.elim
 case yN neg x y=>
  simp only[cg]at h
  rw[aJm]
  split at h
  .rename_i r ak
   rw[aa.ptrEq ak]
   exact⟨g,n,a,Nat.le_refl _,aa,h⟩
  .exact h.elim
 case lookup zero ok mp k=>
  simp only[cg]at h
  rw[aJq]
  split at h
  .rename_i hm
   simp only[hm]
   exact⟨g,n,a,Nat.le_refl _,aa,h⟩
  .rename_i r hm
   simp only[hm]
   split at h
   .rename_i ro es ad
    have aj:σ.get r=some (.map ro es):=(aa.at_ r _ ad).2
    simp only[aj]
    split at h
    .rename_i v hv;simp only[hv];exact⟨g,n,a,Nat.le_refl _,aa,h⟩
    .rename_i hv;simp only[hv];exact⟨g,n,a,Nat.le_refl _,aa,h⟩
    .exact h.elim
   .exact h.elim
  .exact h.elim
 case update mp k v=>
  simp only[cg]at h
  split at h
  .rename_i r hm
   split at h
   .rename_i es ad
    have aj:σ.get r=some (.map false es):=(aa.at_ r _ ad).2
    split at h
    .rename_i o au
     rw[aJt mp k v hm aj au]
     exact⟨_,n,a,Nat.le_refl _,aa.set ad (by show(σ.set r _).get r=_;rw[k1,if_pos rfl]),h⟩
    .exact h.elim
   .exact h.elim
  .exact h.elim
 case delete mp k=>
  simp only[cg]at h
  split at h
  .rename_i r hm
   split at h
   .rename_i es ad
    have aj:σ.get r=some (.map false es):=(aa.at_ r _ ad).2
    split at h
    .rename_i o au
     rw[aJl mp k hm aj au]
     exact⟨_,n,a,Nat.le_refl _,aa.set ad (by show(σ.set r _).get r=_;rw[k1,if_pos rfl]),h⟩
    .exact h.elim
   .exact h.elim
  .exact h.elim
 case wm mp=>
  simp only[cg]at h
  rw[aJo]
  split at h
  .rename_i hm
   simp only[hm]
   exact⟨g,n,a,Nat.le_refl _,aa,h⟩
  .rename_i r hm
   simp only[hm]
   split at h
   .rename_i ro es ad
    have aj:σ.get r=some (.map ro es):=(aa.at_ r _ ad).2
    simp only[aj]
    exact⟨g,n,a,Nat.le_refl _,aa,h⟩
   .exact h.elim
  .exact h.elim
 case append z bytes s x=>
  simp only[cg]at h
  rw[aJg]
  split at h
  .rename_i p aB
   obtain⟨σ',J,U,aq⟩:=aa.append aB
   rw[J]
   exact⟨_,_,a,U,aq,h⟩
  .exact h.elim
 case copy z s x=>
  simp only[cg]at h
  rw[aJj]
  split at h
  .rename_i p aB
   obtain⟨σ',J,U⟩:=aa.copy aB
   rw[J]
   exact⟨_,_,a,Nat.le_refl _,U,h⟩
  .exact h.elim
 case vt dt x=>
  simp only[cg]at h
  rw[aJi]
  split at h
  .rename_i hv
   simp only[hv]
   exact⟨g,n,a,Nat.le_refl _,aa,h⟩
  .rename_i b o len cap z hv
   simp only[hv]
   split at h
   .rename_i a5
    simp only[a5,if_true]
    exact⟨g,n,a,Nat.le_refl _,aa,h⟩
   .rename_i a5
    split at h
    .rename_i bB
     split at h
     .rename_i g' aw
      obtain⟨σ',J,U⟩:=aa.store aw
      rw[if_neg a5,if_pos bB]
      simp only[J]
      exact⟨g',n,a,Nat.le_refl _,U,h⟩
     .exact h.elim
    .exact h.elim
  .exact h.elim
 all_goals exact h.elim
theorem B7{x:X}{K pN:V->H->Prop}{t:T V}(h:gE Γ x K t σ)(ah:∀v σ,K v σ->pN v σ):gE Γ x pN t σ:=by
 cases x
 case call f args=>exact mZ.mono h ah
 case pr f args=>
  rw[asX]at h |-
  split at h
  .exact mZ.mono h ah
  .exact h.elim
 case invoke name recv args=>
  rw[asY]at h |-
  split at h
  .split at h
   .exact mZ.mono h ah
   .exact h.elim
  .exact h.elim
 all_goals
  simp only[gE]at h |-
  split at h
  .exact ah _ _ h
  .exact h.elim
theorem H3:∀(l:List Op) {N:fp α} {t:T V} {g:G} {n:Nat} {a:α} {σ:H} (bR:Nat),bR<=n->cI A Γ l N t g n a->Sat A g n a σ->my Γ l (sG A bR N) t σ
 |[],N,t,g,n,a,σ,bR,az,h,aa=>⟨g,n,a,az,aa,h⟩
 |o::r,N,t,g,n,a,σ,bR,az,h,aa=>by
  have go:cg A Γ o.x (fun v g' n' a'=>cI A Γ r N (dp t o.dst v) g' n' a') t g n a->gE Γ o.x (fun v σ'=>my Γ r (sG A bR N) (dp t o.dst v) σ') t σ:=fun J=>
   B7 (ass J aa) fun v σ' ⟨g',n',a',hle,eK,ah⟩=>H3 r bR (Nat.le_trans az hle) ah eK
  simp only[cI]at h
  simp only[my]
  split at h
  .rename_i aw;simp only[aw];exact go h
  .rename_i j b aw
   simp only[aw]
   split at h
   .rename_i c af
    simp only[af]
    split at h
    .rename_i e;simp only[e,if_true];exact go h
    .rename_i e;simp only[e,if_false];exact H3 r bR az h aa
   .exact h.elim
   .rename_i J U
    split
    .rename_i c af;exact(J c af).elim
    .rename_i af;exact(U af).elim
    .exact H3 r bR az h aa
def Cc:List G->List H->Prop
 |[],[]=>True
 |g::r,σ::s=>(∀b c,g b=some c->c.r_ σ b)/\Cc r s
 |_,_=>False
theorem RB{k:Nat}{agg:Bool}{p v:V}(hv:V.same 40 v v=true):∀(j:Nat) {gs:List G} {as':List H},Cc gs as'->uD k agg p v j gs->held k agg p v j as'=true
 |0,_,_,_,_=>rfl
 |j+1,g::r,σ::s,h,bd=>by
  simp only[uD]at bd
  simp only[held,r_.load h.1 bd.1,hv,Bool.true_and]
  exact RB hv j h.2 bd.2
 |j+1,[],_,h,bd=>by simp[uD]at bd
 |j+1,_::_,[],h,bd=>by simp[Cc]at h
theorem aDa{base len i back:Nat}{x:X}{K:V->G->Prop}{t:T V}{aw:List G}{mi:List H}(h:gk base len i back x K t g aw)(aa:Sat A g n a σ)(ad:∀j,j<len->∃c,g (base+j)=some c)(bd:Cc aw mi):
 ∃v σ' g',wo base i back x t σ mi=some (v,σ')/\Sat A g' n a σ'/\(∀j,j<len->∃c,g' (base+j)=some c)/\K v g':=by
 cases x<;>simp only[gk]at h<;>try exact h.elim
 case l x=>
  split at h
  .rename_i v hv
   exact⟨v,σ,g,by simp only[wo,hv,Option.map_some],aa,ad,h⟩
  .exact h.elim
 case a x=>
  split at h
  .rename_i aC
   split at h
   .rename_i p aB
    obtain⟨B,J,U⟩:=ash aB
    obtain⟨dd,jK⟩:=ad i aC
    refine⟨_,_,_,by simp only[wo,J,Option.map_some];rfl,aa.set jK (U _ _ (by rw[k1,if_pos rfl])),fun j ax=>?_,h⟩
    rw[bJ]
    split
    .exact⟨_,rfl⟩
    .exact ad j ax
   .exact h.elim
  .exact h.elim
 case load k agg p=>
  split at h
  .rename_i v hv
   split at h
   .rename_i a5
    subst a5
    exact⟨v,σ,g,by simp only[wo,aa.load hv,held,if_true],aa,ad,h⟩
   .obtain⟨J,U,aq⟩:=h
    exact⟨v,σ,g,by simp only[wo,aa.load hv,RB J back bd U,if_true],aa,ad,aq⟩
  .exact h.elim
theorem EY(base len:Nat):∀(l:List dg) {N:fp α} {t:T V} {g:G} {n:Nat} {a:α} {σ:H} {aw:List G} {mi:List H} (bR:Nat),bR<=n->cr A Γ base len l N t g n a aw->Sat A g n a σ->(∀j,j<len->∃c,g (base+j)=some c)->Cc aw mi->iW Γ base l (sG A bR N) t σ mi
 |[],N,t,g,n,a,σ,aw,mi,bR,az,h,aa,ad,bd=>⟨g,n,a,az,aa,h⟩
 |⟨SF,⟨d,x,Da⟩,hv,back,jx⟩::r,N,t,g,n,a,σ,aw,mi,bR,az,h,aa,ad,bd=>by
  simp only[cr]at h
  cases hv with
  |true=>
   have go:cg A Γ x (fun v g' n' a'=>kB base len g'/\cr A Γ base len r N (dp t d v) g' n' a' (g'::aw)) t g n a->gE Γ x (fun v σ'=>iW Γ base r (sG A bR N) (dp t d v) σ' (σ'::mi)) t σ:=fun J=>
    B7 (ass J aa) fun v σ' ⟨g',n',a',hle,eK,eN,ah⟩=>EY base len r bR (Nat.le_trans az hle) ah eK eN ⟨fun b c h=>(eK.at_ b c h).2,bd⟩
   have skip:cr A Γ base len r N (dp t d .undef) g n a (g::aw)->iW Γ base r (sG A bR N) (dp t d .undef) σ (σ::mi):=fun J=>
    EY base len r bR az J aa ad ⟨fun b c h=>(aa.at_ b c h).2,bd⟩
   simp only[if_true]at h
   cases Da with
   |none=>rw[aI5];exact go h
   |some Lr=>
    obtain⟨j,b⟩:=Lr
    rw[aI6]
    simp only at h
    split at h
    .rename_i c af
     simp only[af]
     split at h
     .rename_i e;simp only[e,if_true];exact go h
     .rename_i e;simp only[e,if_false];exact skip h
    .exact h.elim
    .rename_i J U
     split
     .rename_i c af;exact(J c af).elim
     .rename_i af;exact(U af).elim
     .exact skip h
  |false=>
   have go:gk base len SF back x (fun v g'=>cr A Γ base len r N (dp t d v) g' n a aw) t g aw->(match wo base SF back x t σ mi with
    |some p=>iW Γ base r (sG A bR N) (dp t d p.1) p.2 mi
    |none=>False):=fun J=>by
    obtain⟨v,σ',g',U,aq,aK,bx⟩:=aDa J aa ad bd
    rw[U]
    exact EY base len r bR az bx aq aK bd
   have skip:cr A Γ base len r N (dp t d .undef) g n a aw->iW Γ base r (sG A bR N) (dp t d .undef) σ mi:=fun J=>
    EY base len r bR az J aa ad bd
   simp only[Bool.false_eq_true,if_false]at h
   cases Da with
   |none=>rw[asO];exact go h
   |some Lr=>
    obtain⟨j,b⟩:=Lr
    rw[aI7]
    simp only at h
    split at h
    .rename_i c af
     simp only[af]
     split at h
     .rename_i e;simp only[e,if_true];exact go h
     .rename_i e;simp only[e,if_false];exact skip h
    .exact h.elim
    .rename_i J U
     split
     .rename_i c af;exact(J c af).elim
     .rename_i af;exact(U af).elim
     .exact skip h
theorem E6:∀(l:List Op) {N N':T V->H->Prop} {t:T V} {σ:H},my Γ l N t σ->(∀t σ,N t σ->N' t σ)->my Γ l N' t σ
 |[],N,N',t,σ,h,az=>az _ _ h
 |o::r,N,N',t,σ,h,az=>by
  simp only[my]at h |-
  split at h
  .exact B7 h fun v σ' ay=>E6 r ay az
  .split at h
   .split at h
    .rename_i e;simp only[e,if_true];exact B7 h fun v σ' ay=>E6 r ay az
    .rename_i e;simp only[e,if_false];exact E6 r h az
   .exact h.elim
   .exact E6 r h az
theorem B6(base:Nat):∀(l:List dg) {N N':T V->H->Prop} {t:T V} {σ:H} {cs:List H},iW Γ base l N t σ cs->(∀t σ,N t σ->N' t σ)->iW Γ base l N' t σ cs
 |[],N,N',t,σ,cs,h,az=>az _ _ h
 |i::r,N,N',t,σ,cs,h,az=>by
  simp only[iW]at h |-
  split at h
  .rename_i hv
   simp only[hv,if_true]
   split at h
   .exact B7 h fun v σ' ay=>B6 base r ay az
   .split at h
    .split at h
     .rename_i e;simp only[e,if_true];exact B7 h fun v σ' ay=>B6 base r ay az
     .rename_i e;simp only[e,if_false];exact B6 base r h az
    .exact h.elim
    .exact B6 base r h az
  .rename_i hv
   simp only[hv]
   split at h
   .exact B6 base r h az
   .exact h.elim
theorem vc:∀(c:C) {N N':T V->H->Prop} {E sa:Nat->T V->H->Prop} {R gT:T V->H->Prop} {t:T V} {σ:H},ka Γ c N E R t σ->(∀t σ,N t σ->N' t σ)->(∀i t σ,E i t σ->sa i t σ)->(∀t σ,R t σ->gT t σ)->ka Γ c N' sa gT t σ
 | .skip,N,N',E,sa,R,gT,t,σ,h,J,U,aq=>J _ _ h
 | .ao l,N,N',E,sa,R,gT,t,σ,h,J,U,aq=>E6 l h J
 | .draw l,N,N',E,sa,R,gT,t,σ,h,J,U,aq=>B6 _ l h J
 | .seq a b,N,N',E,sa,R,gT,t,σ,h,J,U,aq=>vc a h (fun t σ ay=>vc b ay J U aq) U aq
 | .cond c a b,N,N',E,sa,R,gT,t,σ,h,J,U,aq=>by
   simp only[ka]at h |-
   split at h
   .split at h
    .rename_i e;simp only[e,if_true];exact vc a h J U aq
    .rename_i e;simp only[e,Bool.false_eq_true,if_false];exact vc b h J U aq
   .exact h.elim
 | .block id c,N,N',E,sa,R,gT,t,σ,h,J,U,aq=>vc c h J (fun i t σ ay=>by
  split at ay
  .rename_i e;simp only[e,if_true];exact J _ _ ay
  .rename_i e;simp only[e,if_false];exact U _ _ _ ay) aq
 | .loop c,N,N',E,sa,R,gT,t,σ,h,J,U,aq=>by
   obtain⟨Inv,aC,od⟩:=h
   exact⟨Inv,aC,fun n t σ ay=>vc c (od n t σ ay) (fun _ _ h=>h) U aq⟩
 | .exit id,N,N',E,sa,R,gT,t,σ,h,J,U,aq=>U _ _ _ h
 | .ret,N,N',E,sa,R,gT,t,σ,h,J,U,aq=>aq _ _ h
 | .oz _ _ _,N,N',E,sa,R,gT,t,σ,h,J,U,aq=>h.elim
theorem z5:∀(c:C) {N:fp α} {E:Nat->fp α} {R:fp α} {t:T V} {g:G} {n:Nat} {a:α} {σ:H} (bR:Nat),bR<=n->b9 A Γ c N E R t g n a->Sat A g n a σ->ka Γ c (sG A bR N) (fun i=>sG A bR (E i)) (sG A bR R) t σ
 | .skip,N,E,R,t,g,n,a,σ,bR,az,h,aa=>⟨g,n,a,az,aa,h⟩
 | .ao l,N,E,R,t,g,n,a,σ,bR,az,h,aa=>H3 l bR az h aa
 | .draw l,N,E,R,t,g,n,a,σ,bR,az,h,aa=>by
   rw[aI2,aa.next]
   have eK:Sat A (lF g n (uj l)) (n+l.length) a (σ.room l.length):=(aa.room l.length).Ia fun b c ad=>by
    have:=au' l
    rw[wb]at ad |-
    split at ad
    .rename_i e;rw[if_pos I];exact ad
    .rename_i e
     have:=(aa.at_ b c ad).1
     rw[if_neg I];exact ad
   exact EY n (uj l) l bR I h eK (fun j ax=>⟨.hole,KY ax⟩) ⟨fun b c h=>(eK.at_ b c h).2,trivial⟩
 | .seq x y,N,E,R,t,g,n,a,σ,bR,az,h,aa=>by
   rw[aI3]
   refine vc x (z5 x bR az h aa) (fun t σ' ⟨g',n',a',hle,eK,ah⟩=>?_) (fun _ _ _ h=>h) (fun _ _ h=>h)
   exact z5 y bR hle ah eK
 | .cond c x y,N,E,R,t,g,n,a,σ,bR,az,h,aa=>by
   simp only[b9]at h
   rw[aI1]
   split at h
   .rename_i b ad
    simp only[ad]
    split at h
    .rename_i e;rw[if_pos e];exact z5 x bR az h aa
    .rename_i e;rw[if_neg e];exact z5 y bR az h aa
   .exact h.elim
 | .block id c,N,E,R,t,g,n,a,σ,bR,az,h,aa=>by
   rw[aI0]
   refine vc c (z5 c bR az h aa) (fun _ _ h=>h) (fun i t σ' ⟨g',n',a',hle,eK,ah⟩=>?_) (fun _ _ h=>h)
   split at ah
   .rename_i e;rw[if_pos e];exact⟨g',n',a',hle,eK,ah⟩
   .rename_i e;rw[if_neg e];exact⟨g',n',a',hle,eK,ah⟩
 | .loop c,N,E,R,t,g,n,a,σ,bR,az,h,aa=>by
   obtain⟨Inv,⟨k,ah⟩,od⟩:=h
   refine⟨fun k=>sG A bR (Inv k),⟨k,g,n,a,az,aa,ah⟩,fun k t σ' ⟨g',n',a',hle,eK,gg⟩=>?_⟩
   refine vc c (z5 c bR hle (od k t g' n' a' gg) eK) (fun t oq ⟨ba,aT,b7,zc,mO,jj,ap,aC⟩=>⟨jj,ap,ba,aT,b7,zc,mO,aC⟩) (fun _ _ _ h=>h) (fun _ _ h=>h)
 | .exit id,N,E,R,t,g,n,a,σ,bR,az,h,aa=>⟨g,n,a,az,aa,h⟩
 | .ret,N,E,R,t,g,n,a,σ,bR,az,h,aa=>⟨g,n,a,az,aa,h⟩
 | .oz _ _ _,N,E,R,t,g,n,a,σ,bR,az,h,aa=>h.elim
def qo(t:T V)(g:G):List vq->Option (List V)
 |[]=>some []
 | .tmp i::r=>(qo t g r).map fun l=>aW t (.t i)::l
 | .cell p k agg::r=>match ni g k agg (aW t (.t p))with
   |some v=>(qo t g r).map fun l=>v::l
   |none=>none
theorem Sat.j8(h:Sat A g n a σ){t:T V}:∀{z4:List vq} {l:List V},qo t g z4=some l->pG t σ z4=some l
 |[],l,aA=>aA
 | .tmp i::r,l,aA=>by
   simp only[qo]at aA
   simp only[pG]
   cases ak:qo t g r with
   |none=>rw[ak]at aA;simp at aA
   |some l'=>rw[ak]at aA;rw[h.j8 ak];exact aA
 | .cell p k agg::r,l,aA=>by
   simp only[qo]at aA
   simp only[pG]
   split at aA
   .rename_i v hv
    rw[h.load hv]
    cases ak:qo t g r with
    |none=>rw[ak]at aA;simp at aA
    |some l'=>rw[ak]at aA;rw[h.j8 ak];exact aA
   .simp at aA
def Fin(K:cj α)(v:V)(g:G)(n:Nat)(a:α):Prop:=∃g',(∀b c,g' b=some c->g b=some c)/\K v g' n a
theorem Fin.all{K:cj α}{v:V}{g:G}{n:Nat}{a:α}(h:K v g n a):Fin K v g n a:=⟨g,fun _ _ h=>h,h⟩
theorem ayo{f:FuncId}{fP:bn}{args:List V}{K:cj α}(aV:Γ.jn f=some fP)(ak:fP.wH=none)(hm:∀σ,Γ.r3 f args σ=none)
 (h:∀N:fp α,(∀t g' n' a',(match qo t g' fP.j8 with|some l=>n<=n'->Fin K (q7 l) g' n' a'|none=>False)->N t g' n' a')->b9 A Γ fP.body N (fun _ _ _ _ _=>False) N (T.ofList .e 0 args) g n a):aR A Γ f args g n a K:=by
 intro σ aa
 refine Q3 aV ak (hm σ) ?_
 have J:=z5 fP.body n (Nat.le_refl _) (h (fun t g' n' a'=>match qo t g' fP.j8 with|some l=>n<=n'->Fin K (q7 l) g' n' a'|none=>False) fun _ _ _ _ h=>h) aa
 have fin:∀t σ',sG A n (fun t g' n' a'=>match qo t g' fP.j8 with|some l=>n<=n'->Fin K (q7 l) g' n' a'|none=>False) t σ'->At fP (ty A n K) t σ':=by
  rintro t σ' ⟨g',n',a',hle,eK,ah⟩
  unfold At
  split at ah
  .rename_i l aA
   rw[eK.j8 aA]
   obtain⟨ba,U,aq⟩:=ah hle
   exact⟨ba,n',a',hle,eK.Ia U,aq⟩
  .exact ah.elim
 exact vc _ J fin (fun i t σ' ⟨_,_,_,_,_,h⟩=>h) fin
theorem aR.mono{f:FuncId}{args:List V}{K pN:cj α}(h:aR A Γ f args g n a K)(ah:∀v g' n' a',n<=n'->K v g' n' a'->pN v g' n' a'):aR A Γ f args g n a pN:=fun σ aa=>
 (h σ aa).mono fun v σ' ⟨g',n',a',hle,eK,gg⟩=>⟨g',n',a',hle,eK,ah v g' n' a' hle gg⟩
theorem aR.Ia{f:FuncId}{args:List V}{K:cj α}{g':G}(h:aR A Γ f args g' n a K)(aw:∀b c,g' b=some c->g b=some c):aR A Γ f args g n a K:=fun σ aa=>h σ (aa.Ia aw)
theorem dO{f:FuncId}{args:List V}{K:cj α}(h:(∀b c,g b=some c->b<n)->aR A Γ f args g n a K):aR A Γ f args g n a K:=fun σ aa=>h (fun b c ad=>(aa.at_ b c ad).1) σ aa
end
end
