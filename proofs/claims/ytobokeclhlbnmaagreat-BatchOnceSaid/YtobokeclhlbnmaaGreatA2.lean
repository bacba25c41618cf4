/- Part of the proof of BatchOnce, for every input. -/
import Derived.Test.YtobokeclhlbnmaaGreatA1
import Derived.IntWalk
set_option linter.all false
namespace Go.Abs
section inv
variable{φ:F}{v':Value}
theorem cu.jD{k:IntKind}{n:Int}(h:cu φ (.int k n) v'):v'= .int k n:=by cases h;rfl
theorem cu.FP{b:Bool}(h:cu φ (.bool b) v'):v'= .bool b:=by cases h;rfl
theorem cu.aHY{b:ByteArray}(h:cu φ (.str b) v'):v'= .string b:=by cases h;rfl
theorem cu.x8{b o:Nat}(h:cu φ (.ptr b o) v'):∃p,φ b=some p/\v'= .pointer (some ⟨p.b4,p.off+o,none⟩):=by cases h;exact⟨_, ‹_›,rfl⟩
theorem cu.FI{al:List V}(h:cu φ (.agg al) v'):∃eT,v'= .agg ⟨eT⟩/\eD φ al eT:=by cases h;exact⟨_,rfl, ‹_›⟩
theorem cu.aIs{al:List V}(h:cu φ (.bN al) v'):∃eT,v'= .tuple ⟨eT⟩/\eD φ al eT:=by cases h;exact⟨_,rfl, ‹_›⟩
theorem cu.Bn{t:TypeId}{v:V}(h:cu φ (.iface t v) v'):∃u,v'= .iface t u/\cu φ v u:=by cases h;exact⟨_,rfl, ‹_›⟩
theorem cu.JQ{f:Fn}{a c:List V}(h:cu φ (.fn f a c) v'):∃a' c',v'= .func f ⟨a'⟩ ⟨c'⟩/\eD φ a a'/\eD φ c c':=by cases h;exact⟨_,_,rfl, ‹_›, ‹_›⟩
theorem cu.pd{b o len cap z:Nat}(h:cu φ (.slice b o len cap z) v'):
 (∃p gG,φ b=some p/\len<=cap/\cap<=gG/\p.off+o+gG*z<=p.size/\v'= .slice (some ⟨p.b4,p.off+o,none⟩) len gG)\/
 (len=0/\cap=0/\∃a,v'= .slice (some a) 0 0):=by
 cases h
 .exact .inl ⟨_,_, ‹_›, ‹_›, ‹_›, ‹_›,rfl⟩
 .exact .inr ⟨rfl,rfl,_,rfl⟩
theorem cu.sQ(h:cu φ .br v'):v'= .slice none 0 0:=by cases h;rfl
theorem cu.aBE(h:cu φ .jC v'):v'= .nilIface:=by cases h;rfl
theorem cu.Ti{b:Nat}(h:cu φ (.map b) v'):∃p,φ b=some p/\v'= .map (some p.b4):=by cases h;exact⟨_, ‹_›,rfl⟩
theorem cu.Ts(h:cu φ .hC v'):v'= .map none:=by cases h;rfl
end inv
section
variable{P:Program}{aQ:List Nat}{φ:F}{ρ:aG->V}{ρ':Operand->Value}
def Fg(P:Program)(φ:F)(ρ':Operand->Value)(o:Oper)(v:V):Prop:=∀w:World,∃v',(execOp ρ' o).run P w= .ok (.value v') w/\cu φ v v'
theorem eY{α β:Type}{f:α->β}{o:Option α}{b:β}(h:o.map f=some b):∃a,o=some a/\b=f a:=by
 cases o with
 |none=>simp at h
 |some a=>simp at h;exact⟨a,rfl,h.symm⟩
theorem aCQ(o:Oper)(op:BinOp)(t wT:TypeId)(x y:Operand)(au:o.op= .binOp op t x y wT)(k:IntKind)(a b:Int)(aj:ρ' x= .int k a)(ai:ρ' y= .int k b)
 (KV:¬(op= .shl\/op= .shr)) {v:V} (h:yC op k a b=some v):Fg P φ ρ' o v:=by
 intro w
 cases op<;>simp at KV<;>simp only[yC]at h
 case quo=>
  split at h
  .simp at h
  .rename_i ad
   simp at h;subst h
   exact⟨_,by simp[execOp,au,aj,ai,eqGuard,binOp,Op.intDiv,ad],.int _ _⟩
 case rem=>
  split at h
  .simp at h
  .rename_i ad
   simp at h;subst h
   exact⟨_,by simp[execOp,au,aj,ai,eqGuard,binOp,Op.intDiv,ad],.int _ _⟩
 all_goals
  simp at h
  subst h
  exact⟨_,by simp[execOp,au,aj,ai,eqGuard,binOp,Op.intArith,Op.intBits,Op.intCmp];rfl,by constructor⟩
theorem aCR(o:Oper)(op:BinOp)(t wT:TypeId)(x y:Operand)(au:o.op= .binOp op t x y wT)(k a9:IntKind)(a b:Int)(aj:ρ' x= .int k a)(ai:ρ' y= .int a9 b)
 {v:V} (h:EX op k a b=some v):Fg P φ ρ' o v:=by
 intro w
 unfold EX at h
 split at h
 .simp at h
 .rename_i ad
  cases op<;>simp at h<;>subst h
  all_goals exact⟨_,by simp[execOp,au,aj,ai,eqGuard,binOp,Op.shift,ad],.int _ _⟩
theorem aCS(o:Oper)(op:UnOp)(t:TypeId)(x:Operand)(au:o.op= .unOp op t x){u v:V}(aj:cu φ u (ρ' x))(h:z_ op u=some v):Fg P φ ρ' o v:=by
 intro w
 unfold z_ at h
 split at h
 .have e:=aj.FP
  cases op<;>simp at h
  subst h
  exact⟨_,by simp[execOp,au,e,Op.unary],.bool _⟩
 .have e:=aj.jD
  cases op<;>simp at h
  all_goals
   subst h
   exact⟨_,by simp[execOp,au,e,Op.unary,Op.intArith,Op.intBits],.int _ _⟩
 .simp at h
theorem Ug{al:List V}{eT:List Value}(af:eD φ al eT){off n:Nat}{g:Bool}{v:V}(h:x7 al off n g=some v){t:TypeId}(az:jQ P t=some n)(aw:se P t=some g)(w:World):
 ∃v',(part t ⟨eT⟩ off).run P w= .ok v' w/\cu φ v v':=by
 unfold x7 at h
 split at h
 .rename_i Ds
  simp at h;subst h
  subst Ds
  refine⟨.agg ⟨(eT.drop off).take n⟩,?_,.agg _ _ ((af.drop off).take n)⟩
  have e:(⟨eT⟩:Array Value).extract off (off+n)=⟨(eT.drop off).take n⟩:=by
   apply Array.toList_inj.1
   simp[List.extract_eq_take_drop]
  simp only[List.extract_toArray]at e
  simp[part,HP aw,mX az]
 .rename_i vT
  obtain⟨v',e,r⟩:=af.get off v h
  have:g=false:=by simpa using vT
  subst this
  exact⟨v',by simp[part,HP aw,e],r⟩
theorem Cw{b:Option aG}{b':Option Operand}(he:Env φ aQ ρ ρ')(ad:oy aQ b'=some b){d h:Nat}(bd:ix d (b.map ρ)=some h):
 (b'=none/\h=d)\/(∃x k,b'=some x/\ρ' x= .int k (h:Int)):=by
 cases b' with
 |none=>simp[oy]at ad;subst ad;simp[ix]at bd;exact .inl ⟨rfl,bd.symm⟩
 |some x=>
  simp only[oy]at ad
  obtain⟨y,ai,rfl⟩:=eY ad
  have hv:=he x y ai
  simp only[Option.map_some]at bd
  cases e:ρ y<;>rw[e]at bd<;>simp[ix]at bd
  rename_i k n
  rw[e]at hv
  obtain⟨az,rfl⟩:=bd
  refine .inr ⟨x,k,rfl,?_⟩
  rw[hv.jD,Int.toNat_of_nonneg az]
theorem run_sliceBound(k:IntKind)(h y:Nat)(c:BoundsCode)(hle:h<=y)(w:World):(Instr.sliceBound (.int k (h:Int)) y c).run P w= .ok h w:=by
 have:(h:Int)<=y:=I
 simp[Instr.sliceBound,asIntOf,this]
theorem HR{fa aC:Option aG}{qZ m9:Option Operand}(he:Env φ aQ ρ ρ')(aA:oy aQ qZ=some fa)(bd:oy aQ m9=some aC){isS:Bool}{len cap l h:Nat}
 (el:ix 0 (fa.map ρ)=some l) (n3:ix len (aC.map ρ)=some h) (J:l<=h) (U:h<=cap) (w:World):
 (Instr.sliceBounds isS len cap (qZ.map ρ') (m9.map ρ') none).run P w= .ok (l,h,cap) w:=by
 have a:=Cw he aA el
 have b:=Cw he bd n3
 have iM:∀c (k:IntKind) w,(Instr.sliceBound (.int k (h:Int)) cap c).run P w= .ok h w:=fun c k w=>run_sliceBound k h cap c U w
 have jj:∀c (k:IntKind) w,(Instr.sliceBound (.int k (l:Int)) h c).run P w= .ok l w:=fun c k w=>run_sliceBound k l h c J w
 rcases a with⟨rfl,rfl⟩|⟨x,k,rfl,ex⟩<;>rcases b with⟨rfl,rfl⟩|⟨y,a9,rfl,xl⟩
 .simp[Instr.sliceBounds]
 .simp[Instr.sliceBounds,xl,iM]
 .simp[Instr.sliceBounds,ex,jj]
 .simp[Instr.sliceBounds,ex,xl,iM,jj]
theorem add_eq(b4 off n:Nat):(⟨b4,off,none⟩:Addr).add n=⟨b4,off+n,none⟩:=by
 unfold Addr.add
 split
 .rename_i h;subst h;rfl
 .rfl
theorem aHL{z:Nat}{x:V}{lg:Value}{fa aC:Option aG}{qZ m9:Option Operand}(he:Env φ aQ ρ ρ')(aA:oy aQ qZ=some fa)(bd:oy aQ m9=some aC)
 (aj:cu φ x lg) {t e:TypeId} (bg:P.underlying t=some (.slice e)) (bB:jQ P e=some z) {v:V} (h:q9 z x (fa.map ρ) (aC.map ρ)=some v) (w:World):
 ∃v',(Instr.sliceAt t lg (qZ.map ρ') (m9.map ρ') none).run P w= .ok v' w/\cu φ v v':=by
 unfold q9 at h
 split at h
 .rename_i b o len cap z'
  split at h
  .rename_i hv cF n3 el
   split at h
   .rename_i af
    obtain⟨J,U,aq⟩:=af
    subst aq
    simp at h;subst h
    rcases aj.pd with⟨p,gG,aB,c1,c2,eu,rfl⟩|⟨rfl,rfl,a,rfl⟩
    .have aO:=HR (P:=P) (isS:=true) (len:=len) (cap:=gG) he aA bd el n3 J I w
     by_cases hm:gG=cF
     .subst hm
      have vV:hv-gG=0:=I
      have mL:cap-gG=0:=I
      refine⟨.slice (some ⟨p.b4,p.off+o,none⟩) 0 0,?_,?_⟩
      .simp[Instr.sliceAt,Instr.slice,run_underlying bg,aO,mX bB,vV]
      .rw[vV,mL];exact .yb _ _ _ _
     .refine⟨.slice (some ⟨p.b4,p.off+o+cF*z',none⟩) (hv-cF) (gG-cF),?_,?_⟩
      .simp[Instr.sliceAt,Instr.slice,run_underlying bg,aO,mX bB,hm,add_eq]
      .have:=cu.slice (φ:=φ) b (o+cF*z') (hv-cF) (cap-cF) z' (gG-cF) p aB I I (by
        have aD:(gG-cF)*z'=gG*z'-cF*z':=Nat.sub_mul _ _ _
        have aJ:cF*z'<=gG*z':=Nat.mul_le_mul_right _ I
        omega)
       rwa [show p.off+(o+cF*z')=p.off+o+cF*z' from I]at this
    .have sz:hv=0:=I
     have LQ:cF=0:=I
     subst sz;subst LQ
     have aO:=HR (P:=P) (isS:=true) (len:=0) (cap:=0) he aA bd el n3 (Nat.le_refl _) (Nat.le_refl _) w
     refine⟨.slice (some a) 0 0,?_,?_⟩
     .simp[Instr.sliceAt,Instr.slice,run_underlying bg,aO,mX bB]
     .exact .yb _ _ _ _
   .simp at h
  .simp at h
 .split at h
  .rename_i n3 el
   simp at h;subst h
   have e:=aj.sQ
   subst e
   have aO:=HR (P:=P) (isS:=true) (len:=0) (cap:=0) he aA bd el n3 (Nat.le_refl _) (Nat.le_refl _) w
   refine⟨.slice none 0 0,?_,.br⟩
   simp[Instr.sliceAt,Instr.slice,run_underlying bg,aO,mX bB]
  .simp at h
 .simp at h
theorem aeR{fa:Option aG}{aC iB:aG}{qZ:Option Operand}{m9 Bz:Operand}(he:Env φ aQ ρ ρ')(aA:oy aQ qZ=some fa)(bd:eS aQ m9=some aC)(hm:eS aQ Bz=some iB){isS:Bool}{len cap l h m:Nat}
 (el:ix 0 (fa.map ρ)=some l) (n3:ix len (some (ρ aC))=some h) (em:ix 0 (some (ρ iB))=some m) (J:l<=h) (U:h<=m) (aq:m<=cap) (w:World):
 (Instr.sliceBounds isS len cap (qZ.map ρ') (some (ρ' m9)) (some (ρ' Bz))).run P w= .ok (l,h,m) w:=by
 have a:=Cw he aA el
 have b:=Cw (b:=some aC) (b':=some m9) he (by simp[oy,bd]) (d:=len) (h:=h) (by simpa using n3)
 have c:=Cw (b:=some iB) (b':=some Bz) he (by simp[oy,hm]) (d:=0) (h:=m) (by simpa using em)
 have sC:∀c (k:IntKind) w,(Instr.sliceBound (.int k (m:Int)) cap c).run P w= .ok m w:=fun c k w=>run_sliceBound k m cap c aq w
 have iM:∀c (k:IntKind) w,(Instr.sliceBound (.int k (h:Int)) m c).run P w= .ok h w:=fun c k w=>run_sliceBound k h m c U w
 have jj:∀c (k:IntKind) w,(Instr.sliceBound (.int k (l:Int)) h c).run P w= .ok l w:=fun c k w=>run_sliceBound k l h c J w
 obtain⟨b1,_⟩|⟨y,gh,b1,xl⟩:=b
 .simp at b1
 obtain⟨c1,_⟩|⟨z,qe,c1,mF⟩:=c
 .simp at c1
 simp at b1 c1
 subst b1 c1
 rcases a with⟨rfl,rfl⟩|⟨x,k,rfl,ex⟩
 .simp[Instr.sliceBounds,xl,mF,sC,iM]
 .simp[Instr.sliceBounds,ex,xl,mF,sC,iM,jj]
theorem aHK{z:Nat}{x:V}{lg:Value}{fa:Option aG}{aC iB:aG}{qZ:Option Operand}{m9 Bz:Operand}(he:Env φ aQ ρ ρ')(aA:oy aQ qZ=some fa)(bd:eS aQ m9=some aC)(hm:eS aQ Bz=some iB)
 (aj:cu φ x lg) {t e:TypeId} (bg:P.underlying t=some (.slice e)) (bB:jQ P e=some z) {v:V} (h:Nl z x (fa.map ρ) (ρ aC) (ρ iB)=some v) (w:World):
 ∃v',(Instr.sliceAt t lg (qZ.map ρ') (some (ρ' m9)) (some (ρ' Bz))).run P w= .ok v' w/\cu φ v v':=by
 unfold Nl at h
 split at h
 .rename_i b o len cap z'
  split at h
  .rename_i hv cF bz n3 el em
   split at h
   .rename_i af
    obtain⟨J,U,aq,aK⟩:=af
    subst aK
    simp at h;subst h
    rcases aj.pd with⟨p,gG,aB,c1,c2,eu,rfl⟩|⟨rfl,rfl,a,rfl⟩
    .have aO:=aeR (P:=P) (isS:=true) (len:=len) (cap:=gG) he aA bd hm el n3 em J U I w
     by_cases hm:bz=cF
     .subst hm
      have vV:hv-bz=0:=I
      refine⟨.slice (some ⟨p.b4,p.off+o,none⟩) 0 0,?_,?_⟩
      .simp[Instr.sliceAt,Instr.slice,run_underlying bg,aO,mX bB,vV]
      .rw[vV,Nat.sub_self];exact .yb _ _ _ _
     .refine⟨.slice (some ⟨p.b4,p.off+o+cF*z',none⟩) (hv-cF) (bz-cF),?_,?_⟩
      .simp[Instr.sliceAt,Instr.slice,run_underlying bg,aO,mX bB,hm,add_eq]
      .have:=cu.slice (φ:=φ) b (o+cF*z') (hv-cF) (bz-cF) z' (bz-cF) p aB I I (by
        have aD:(bz-cF)*z'=bz*z'-cF*z':=Nat.sub_mul _ _ _
        have aJ:cF*z'<=bz*z':=Nat.mul_le_mul_right _ I
        have bP:bz*z'<=gG*z':=Nat.mul_le_mul_right _ I
        omega)
       rwa [show p.off+(o+cF*z')=p.off+o+cF*z' from I]at this
    .have aDB:bz=0:=I
     subst aDB
     have sz:hv=0:=I
     have LQ:cF=0:=I
     subst sz;subst LQ
     have aO:=aeR (P:=P) (isS:=true) (len:=0) (cap:=0) he aA bd hm el n3 em (Nat.le_refl _) (Nat.le_refl _) (Nat.le_refl _) w
     refine⟨.slice (some a) 0 0,?_,?_⟩
     .simp[Instr.sliceAt,Instr.slice,run_underlying bg,aO,mX bB]
     .exact .yb _ _ _ _
   .simp at h
  .simp at h
 .simp at h
theorem SV(he:Env φ aQ ρ ρ'){o:Oper}{x:s6}(af:m4 P aQ o.op=some x){v:V}(aa:gX ρ x=some v):Fg P φ ρ' o v:=by
 cases au:o.op<;>rw[au]at af
 case move q=>
  obtain⟨a,a3,rfl⟩:=eY af
  simp[gX]at aa;subst aa
  exact fun w=>⟨_,by simp[execOp,au],he _ _ a3⟩
 case assign q=>
  obtain⟨a,a3,rfl⟩:=eY af
  simp[gX]at aa;subst aa
  exact fun w=>⟨_,by simp[execOp,au],he _ _ a3⟩
 case pick c a b=>
  simp only[m4]at af
  split at af
  .rename_i c1 hr
   obtain⟨cR,b1,a3,ad,rfl⟩:=o2 af
   have hv:=he _ _ hr
   simp only[gX]at aa
   split at aa
   .rename_i t bg
    rw[bg]at hv
    simp at aa;subst aa
    intro w
    have fB:(asBool (ρ' c)).run P w= .ok t w:=by rw[hv.FP];simp[asBool]
    cases t
    .exact⟨ρ' b,by simp[execOp,au,fB],he _ _ ad⟩
    .exact⟨ρ' a,by simp[execOp,au,fB],he _ _ a3⟩
   .simp at aa
  .simp at af
 case build t parts=>
  simp only[m4]at af
  split at af
  .rename_i dt cU bB bg
   split at af
   .rename_i pl rK
    obtain⟨l,aA,rfl⟩:=eY af
    simp only[gX]at aa
    obtain⟨r,ak,rfl⟩:=eY aa
    intro w
    obtain⟨z',k6,oe⟩:=Ex bB φ w
    obtain⟨yo,rfl,ts⟩:=oe.FI
    obtain⟨r',J,U⟩:=CM he (fun i=>pl[i]?) aA ts ak
    refine⟨.agg ⟨r'⟩,?_,.agg _ _ U⟩
    have Sa:(cU.mapM fun f=>do pure (f.offset,<-sizeOf f.type):Sem (Array (Nat×Nat))).run P w= .ok pl.toArray w:=by
     have:=run_places (w:=w) rK
     rw[Array.mapM_eq_mapM_toList]
     simp only[Sem.run_map,this,Result.andThen_ok]
    have aV:Instr.fill (fun i=>pl.toArray[i]?) ⟨yo⟩ (parts.map fun p=>(p.1,ρ' p.2)).toList=some ⟨r'⟩:=by
     simpa using J
    simp only[execOp,au]
    simp[Instr.build,run_underlying bg,k6,Value.cells]
    simp at Sa
    simp[Sa]
    simp at aV
    simp[aV]
   .simp at af
  .rename_i dt e bB bg
   split at af
   .rename_i n az
    obtain⟨l,aA,rfl⟩:=eY af
    simp only[gX]at aa
    obtain⟨r,ak,rfl⟩:=eY aa
    intro w
    obtain⟨z',k6,oe⟩:=Ex bB φ w
    obtain⟨yo,rfl,ts⟩:=oe.FI
    obtain⟨r',J,U⟩:=CM he (fun i=>some (i*n,n)) aA ts ak
    refine⟨.agg ⟨r'⟩,?_,.agg _ _ U⟩
    have aV:Instr.fill (fun i=>some (i*n,n)) ⟨yo⟩ (parts.map fun p=>(p.1,ρ' p.2)).toList=some ⟨r'⟩:=by
     simpa using J
    simp at aV
    simp[execOp,au,Instr.build,run_underlying bg,k6,Value.cells,mX az,aV]
   .simp at af
  .simp at af
 case nilCheck q=>
  obtain⟨a,a3,rfl⟩:=eY af
  simp only[gX]at aa
  have hv:=he _ _ a3
  intro w
  split at aa
  .rename_i b hY e
   simp at aa;subst aa
   rw[e]at hv
   obtain⟨p,aB,aJ⟩:=hv.x8
   exact⟨_,by simp[execOp,au,aJ],aJ▸hv⟩
  .rename_i t v2 e
   simp at aa;subst aa
   rw[e]at hv
   obtain⟨u,aJ,hu⟩:=hv.Bn
   exact⟨_,by simp[execOp,au,aJ],aJ▸hv⟩
  .rename_i f a b e
   simp at aa;subst aa
   rw[e]at hv
   obtain⟨a',c',aJ,_,_⟩:=hv.JQ
   exact⟨_,by simp[execOp,au,aJ],aJ▸hv⟩
  .simp at aa
 case binOp op t x y wT=>
  simp only[m4]at af
  split at af
  .rename_i eX bg
   obtain⟨cR,b1,a3,ad,rfl⟩:=o2 af
   have iz:=he _ _ a3
   have gp:=he _ _ ad
   split at aa
   .simp only[gX]at aa
    split at aa
    .rename_i k a a9 b aD aJ
     rw[aD]at iz;rw[aJ]at gp
     exact aCR o op t wT x y au k a9 a b iz.jD gp.jD aa
    .simp at aa
   .rename_i KV
    simp only[gX]at aa
    split at aa
    .rename_i k a a9 b aD aJ
     split at aa
     .rename_i ah
      subst ah
      rw[aD]at iz;rw[aJ]at gp
      exact aCQ o op t wT x y au k a b iz.jD gp.jD KV aa
     .simp at aa
    .simp at aa
  .split at af
   .rename_i mf
    split at af
    .rename_i e ah
     obtain⟨cR,b1,a3,ad,rfl⟩:=o2 af
     have iz:=he _ _ a3
     have gp:=he _ _ ad
     simp only[gX]at aa
     obtain⟨r,ak,rfl⟩:=eY aa
     intro w
     obtain⟨c6,cO⟩:=JG (P:=P) mf x y (axl ah) (avh ah) iz gp ak w
     exact⟨_,by simp only[execOp,au];simp only[Sem.run_bind,c6,cO,Result.andThen_ok,Sem.run_pure],.bool _⟩
    .simp at af
   .simp at af
 case unOp op t q=>
  obtain⟨a,a3,rfl⟩:=eY af
  exact aCS o op t q au (he _ _ a3) aa
 case convert s d q=>
  simp only[m4]at af
  split at af
  .rename_i iM k qb lB
   obtain⟨a,a3,rfl⟩:=eY af
   simp only[gX]at aa
   have hv:=he _ _ a3
   split at aa
   .rename_i jj n e
    simp at aa;subst aa
    rw[e]at hv
    exact fun w=>⟨_,by simp[execOp,au,convert,run_underlying qb,run_underlying lB,hv.jD,Conv.intToInt],.int _ _⟩
   .simp at aa
  .simp at af
 case makeInterface t q=>
  simp only[m4]at af
  split at af
  .simp at af
  .rename_i d me aH
   obtain⟨a,a3,rfl⟩:=eY af
   simp[gX]at aa;subst aa
   intro w
   refine⟨_,?_,.iface t _ _ (he _ _ a3)⟩
   cases d<;>first
    |(exact absurd rfl (me _))
    |(simp[execOp,au,Instr.makeInterface,run_underlying aH])
  .simp at af
 case makeFunc fn first cap=>
  simp only[m4]at af
  split at af
  .rename_i a b a3 ad
   simp at af;subst af
   simp[gX]at aa;subst aa
   intro w
   refine⟨.func fn ⟨first.toList.map ρ'⟩ ⟨cap.toList.map ρ'⟩,?_,.fn _ _ _ _ _ (BL he a3) (BL he ad)⟩
   have aD:(⟨first.toList.map ρ'⟩:Array Value)=first.map ρ':=by apply Array.toList_inj.1;simp
   have aJ:(⟨cap.toList.map ρ'⟩:Array Value)=cap.map ρ':=by apply Array.toList_inj.1;simp
   rw[aD,aJ]
   simp[execOp,au,Instr.makeFunc]
  .simp at af
 case slice t x fa aC iB=>
  cases iB with
  |some m=>
   cases aC with
   |none=>simp[m4]at af
   |some aC=>
    simp only[m4]at af
    split at af
    .rename_i e S4 p8 aLs bg aA bd hm
     split at af
     .rename_i n az
      obtain⟨a,a3,rfl⟩:=eY af
      simp only[gX]at aa
      intro w
      obtain⟨v',J,U⟩:=aHK he aA bd hm (he _ _ a3) bg az aa w
      exact⟨v',by simp[execOp,au,J],U⟩
     .simp at af
    .simp at af
  |none=>
   simp only[m4]at af
   split at af
   .rename_i e S4 p8 bg aA bd
    split at af
    .rename_i n az
     obtain⟨a,a3,rfl⟩:=eY af
     simp only[gX]at aa
     intro w
     obtain⟨v',J,U⟩:=aHL he aA bd (he _ _ a3) bg az aa w
     exact⟨v',by simp[execOp,au,J],U⟩
    .simp at af
   .simp at af
 case fieldAddr s q f=>
  simp only[m4]at af
  split at af
  .rename_i cU bg
   split at af
   .rename_i fd Dq
    split at af
    .rename_i n az
     obtain⟨a,a3,rfl⟩:=eY af
     simp only[gX]at aa
     have hv:=he _ _ a3
     split at aa
     .rename_i b hY e
      simp at aa;subst aa
      rw[e]at hv
      obtain⟨p,aB,aJ⟩:=hv.x8
      intro w
      refine⟨.pointer (some ⟨p.b4,p.off+(hY+fd.offset),none⟩),?_,.ptr _ _ p aB⟩
      simp[execOp,au,Instr.fieldAt,run_underlying bg,Dq,Instr.sureAddr,aJ,fieldPlace,mX az,add_eq,Nat.add_assoc]
     .simp at aa
    .simp at af
   .simp at af
  .simp at af
 case field t q f=>
  simp only[m4]at af
  split at af
  .rename_i cU bg
   split at af
   .rename_i fd Dq
    split at af
    .rename_i n g az aw
     obtain⟨a,a3,rfl⟩:=eY af
     simp only[gX]at aa
     have hv:=he _ _ a3
     split at aa
     .rename_i al e
      rw[e]at hv
      obtain⟨eT,aJ,cC⟩:=hv.FI
      intro w
      obtain⟨v',J,U⟩:=Ug cC aa az aw w
      exact⟨v',by simp[execOp,au,Instr.field,run_underlying bg,Dq,aJ,asAgg,J],U⟩
     .simp at aa
    .simp at af
   .simp at af
  .simp at af
 case indexAddr t x i=>
  simp only[m4]at af
  split at af
  .rename_i e bg
   split at af
   .rename_i n az
    obtain⟨cR,b1,a3,ad,rfl⟩:=o2 af
    have iz:=he _ _ a3
    have gp:=he _ _ ad
    simp only[gX]at aa
    split at aa
    .rename_i b hY len cap z k m aD aJ
     rw[aD]at iz;rw[aJ]at gp
     split at aa
     .rename_i g2
      obtain⟨c1,c2,rfl⟩:=g2
      simp at aa;subst aa
      rcases iz.pd with⟨p,gG,aB,d1,d2,d3,bP⟩|⟨rfl,_⟩
      .intro w
       refine⟨.pointer (some ⟨p.b4,p.off+(hY+m.toNat*(n+1)),none⟩),?_,.ptr _ _ p aB⟩
       simp[execOp,au,Instr.indexAt,run_underlying bg,asIntOf,gp.jD,bP,c1,c2,mX az,add_eq,Nat.add_assoc]
      .omega
     .simp at aa
    .simp at aa
   .simp at af
  .rename_i len e bg
   split at af
   .rename_i n az
    obtain⟨cR,b1,a3,ad,rfl⟩:=o2 af
    have iz:=he _ _ a3
    have gp:=he _ _ ad
    simp only[gX]at aa
    split at aa
    .rename_i b hY k m aD aJ
     rw[aD]at iz;rw[aJ]at gp
     split at aa
     .rename_i g2
      obtain⟨c1,c2⟩:=g2
      simp at aa;subst aa
      obtain⟨p,aB,bP⟩:=iz.x8
      intro w
      refine⟨.pointer (some ⟨p.b4,p.off+(hY+m.toNat*n),none⟩),?_,.ptr _ _ p aB⟩
      simp[execOp,au,Instr.indexAt,run_underlying bg,asIntOf,gp.jD,bP,Instr.sureAddr,c1,c2,mX az,add_eq,Nat.add_assoc]
     .simp at aa
    .simp at aa
   .simp at af
  .simp at af
 case index t x i=>
  simp only[m4]at af
  split at af
  .rename_i len e bg
   split at af
   .rename_i n g az aw
    obtain⟨cR,b1,a3,ad,rfl⟩:=o2 af
    have iz:=he _ _ a3
    have gp:=he _ _ ad
    simp only[gX]at aa
    split at aa
    .rename_i al k m aD aJ
     rw[aD]at iz;rw[aJ]at gp
     split at aa
     .rename_i g2
      obtain⟨c1,c2⟩:=g2
      obtain⟨eT,bP,cC⟩:=iz.FI
      intro w
      obtain⟨v',J,U⟩:=Ug cC aa az aw w
      exact⟨v',by simp[execOp,au,Instr.index,run_underlying bg,asIntOf,gp.jD,bP,c1,c2,mX az,J],U⟩
     .simp at aa
    .simp at aa
   .simp at af
  .simp at af
 case extract q i=>
  obtain⟨a,a3,rfl⟩:=eY af
  simp only[gX]at aa
  have hv:=he _ _ a3
  split at aa
  .rename_i vs e
   rw[e]at hv
   obtain⟨eT,bP,cC⟩:=hv.aIs
   obtain⟨v',J,U⟩:=cC.get i v aa
   exact fun w=>⟨v',by simp[execOp,au,Instr.extract,bP,J],U⟩
  .simp at aa
 case typeAssert x aMr t ok=>
  simp only[m4]at af
  split at af
  .simp at af
  .rename_i d me aH
   have Gd:∀l4,d≠ .interface l4:=fun l4 e=>me l4 (e▸rfl)
   split at af
   .rename_i gP
    subst gP
    split at af
    .rename_i z bB
     obtain⟨a,a3,rfl⟩:=eY af
     have hv:=he _ _ a3
     simp only[gX]at aa
     intro w
     obtain⟨z',k6,oe⟩:=Ex bB φ w
     split at aa
     .rename_i t' u e
      rw[e]at hv
      obtain⟨bj,bP,hu⟩:=hv.Bn
      split at aa
      .rename_i bg
       subst bg
       simp at aa;subst aa
       refine⟨.tuple #[bj,.bool true],?_,.bN _ _ (.cons _ _ _ _ hu (.cons _ _ _ _ (.bool _) .nil))⟩
       cases d<;>first
        |exact absurd rfl (Gd _)
        |simp[execOp,au,Instr.typeAssert,run_underlying aH,bP]
      .rename_i bg
       simp at aa;subst aa
       refine⟨.tuple #[z',.bool false],?_,.bN _ _ (.cons _ _ _ _ oe (.cons _ _ _ _ (.bool _) .nil))⟩
       cases d<;>first
        |exact absurd rfl (Gd _)
        |simp[execOp,au,Instr.typeAssert,run_underlying aH,bP,bg,k6]
     .rename_i e
      rw[e]at hv
      simp at aa;subst aa
      refine⟨.tuple #[z',.bool false],?_,.bN _ _ (.cons _ _ _ _ oe (.cons _ _ _ _ (.bool _) .nil))⟩
      cases d<;>first
       |exact absurd rfl (Gd _)
       |simp[execOp,au,Instr.typeAssert,run_underlying aH,hv.aBE,k6]
     .simp at aa
    .simp at af
   .rename_i gP
    have gP:ok=false:=by simpa using gP
    subst gP
    obtain⟨a,a3,rfl⟩:=eY af
    have hv:=he _ _ a3
    simp only[gX]at aa
    intro w
    split at aa
    .rename_i t' u e
     rw[e]at hv
     obtain⟨bj,bP,hu⟩:=hv.Bn
     split at aa
     .rename_i bg
      subst bg
      simp at aa;subst aa
      refine⟨bj,?_,hu⟩
      cases d<;>first
       |exact absurd rfl (Gd _)
       |simp[execOp,au,Instr.typeAssert,run_underlying aH,bP]
     .simp at aa
    .simp at aa
    .simp at aa
  .simp at af
 case call c=>
  obtain⟨ce,args,bM⟩:=c
  cases ce with
  |builtin b=>
   cases b<;>simp only[m4]at af<;>try(simp at af;done)
   case len=>
    split at af
    .rename_i x t aj fU
     have g1:args= #[x]:=by apply Array.toList_inj.1;simpa using aj
     subst g1
     split at af
     .rename_i e bg
      obtain⟨a,a3,rfl⟩:=eY af
      have hv:=he _ _ a3
      simp only[gX]at aa
      split at aa
      .rename_i b hY len cap z aD
       rw[aD]at hv
       simp at aa;subst aa
       rcases hv.pd with⟨p,gG,aB,d1,d2,d3,bP⟩|⟨rfl,_,b7,bP⟩
       .exact fun w=>⟨_,by simp[execOp,au,resolve,invoke,builtin,Builtin.len_,fU,run_underlying bg,bP,goInt],.int _ _⟩
       .exact fun w=>⟨_,by simp[execOp,au,resolve,invoke,builtin,Builtin.len_,fU,run_underlying bg,bP,goInt],.int _ _⟩
      .rename_i aD
       rw[aD]at hv
       simp at aa;subst aa
       exact fun w=>⟨_,by simp[execOp,au,resolve,invoke,builtin,Builtin.len_,fU,run_underlying bg,hv.sQ,goInt],.int _ _⟩
      .simp at aa
     .rename_i bg
      obtain⟨a,a3,rfl⟩:=eY af
      have hv:=he _ _ a3
      simp only[gX]at aa
      split at aa
      .rename_i s aD
       rw[aD]at hv
       simp at aa;subst aa
       exact fun w=>⟨_,by simp[execOp,au,resolve,invoke,builtin,Builtin.len_,fU,run_underlying bg,hv.aHY,goInt],.int _ _⟩
      .simp at aa
     .simp at af
    .simp at af
   case max=>
    split at af
    .rename_i x y aj
     have g1:args= #[x,y]:=by apply Array.toList_inj.1;simpa using aj
     subst g1
     obtain⟨cR,b1,a3,ad,rfl⟩:=o2 af
     have iz:=he _ _ a3
     have gp:=he _ _ ad
     simp only[gX]at aa
     split at aa
     .rename_i k a a9 b aD aJ
      rw[aD]at iz;rw[aJ]at gp
      split at aa
      .rename_i ah
       subst ah
       simp at aa;subst aa
       exact fun w=>⟨_,by simp[execOp,au,resolve,invoke,builtin,Builtin.max_,Builtin.max2,iz.jD,gp.jD],.int _ _⟩
      .simp at aa
     .simp at aa
    .simp at af
   case min=>
    split at af
    .rename_i x y aj
     have g1:args= #[x,y]:=by apply Array.toList_inj.1;simpa using aj
     subst g1
     obtain⟨cR,b1,a3,ad,rfl⟩:=o2 af
     have iz:=he _ _ a3
     have gp:=he _ _ ad
     simp only[gX]at aa
     split at aa
     .rename_i k a a9 b aD aJ
      rw[aD]at iz;rw[aJ]at gp
      split at aa
      .rename_i ah
       subst ah
       simp at aa;subst aa
       exact fun w=>⟨_,by simp[execOp,au,resolve,invoke,builtin,Builtin.min_,Builtin.min2,iz.jD,gp.jD],.int _ _⟩
      .simp at aa
     .simp at aa
    .simp at af
  |_=>simp[m4]at af
 all_goals simp[m4]at af
end
end Go.Abs
namespace Go.Abs
theorem cu.T2{φ:F}{v:V}{v':Value}(h:cu φ v v')(af:v.cell=true):v'.oneCell'=true:=by
 cases h<;>first|rfl|(simp[V.cell]at af)
theorem wY.congr{w w':World}{b4 i:Nat}{v:Value}(h:wY w b4 i v)(e:w'.heap[b4]? =w.heap[b4]?):wY w' b4 i v:=by
 obtain⟨al,t,eI,J,U⟩:=h
 exact⟨al,t,eI,by rw[e,J],U⟩
theorem qE.congr{w w':World}{p:pQ}(h:qE w p)(e:w'.heap[p.b4]? =w.heap[p.b4]?):qE w' p:=by
 rcases h with⟨al,t,eI,J,U⟩|⟨es,k,J⟩|⟨m,s,n,c,J⟩
 .exact .inl ⟨al,t,eI,by rw[e,J],U⟩
 .exact .inr (.inl ⟨es,k,by rw[e,J]⟩)
 .exact .inr (.inr ⟨m,s,n,c,by rw[e,J]⟩)
theorem l6.mono{φ ec:F}(h:φ.le ec){es:List (V×V)}{dh:List MapEntry}(r:l6 φ es dh):l6 ec es dh:=
 ⟨r.len,fun e he=>by obtain⟨ee,a,b,c⟩:=r.ir e he;exact⟨ee,a,b.mono h,c.mono h⟩,fun e he=>by obtain⟨ee,a,b,c⟩:=r.of e he;exact⟨ee,a,b.mono h,c.mono h⟩,r.ints,r.nodup,r.xZ⟩
theorem ri.congr{φ ec:F}(hle:φ.le ec){w w':World}{p:pQ}{B:jq}(h:ri φ w p B)(e:w'.heap[p.b4]? =w.heap[p.b4]?):ri ec w' p B:=by
 cases B with
 |cells r n c=>
  obtain⟨J,⟨al,t,eI,U,F6⟩,aq⟩:=h
  refine⟨J,⟨al,t,eI,by rw[e,U],F6⟩,fun i aC=>?_⟩
  obtain⟨v',a,b⟩:=aq i aC
  exact⟨v',a.congr e,b.mono hle⟩
 |map r es=>
  obtain⟨J,dh,k,U,aq,aK⟩:=h
  exact⟨J,dh,k,by rw[e,U],aq.mono hle,aK⟩
theorem Rel.heap{φ:F}{σ:H}{w w':World}(h:Rel φ σ w)(e:w'.heap=w.heap):Rel φ σ w':=by
 refine⟨fun b B ad=>?_,h.inj,fun b p aB=>?_⟩
 .obtain⟨p,aB,ak⟩:=h.kc b B ad
  exact⟨p,aB,ak.congr (F.le_refl φ) (by rw[e])⟩
 .obtain⟨J,U⟩:=h.kY b p aB
  exact⟨J,U.congr (by rw[e])⟩
theorem cM.same{φ:F}{σ:H}{w w':World}(h:Rel φ σ w)(e:w'.heap=w.heap)(aD:w'.os=w.os)(aJ:w'.output=w.output):cM φ σ w φ σ w':=
 ⟨h.heap e,F.le_refl φ,fun _ _ _=>by rw[e],fun _ h=>.inl h,by rw[e];exact Nat.le_refl _,aD,aJ,Nat.le_refl _,fun _ h _=>h,fun _ B h _=>⟨B,h,rfl⟩,(cM.refl h).fresh⟩
def F.put(φ:F)(b:Nat)(p:pQ):F:=fun k=>if k=b then some p else φ k
theorem H.k1(σ:H)(b:Nat)(B:jq)(k:Nat):(σ.set b B).get k=if b=k then some B else σ.get k:=by
 simp[H.get,H.set,T.ux]
theorem H.xr(σ:H)(b k:Nat):(σ.kill b).get k=if b=k then none else σ.get k:=by
 simp[H.get,H.kill,T.ux]
theorem H.pZ(σ:H)(B:jq)(k:Nat):(σ.new B).get k=if σ.next=k then some B else σ.get k:=by
 simp[H.get,H.new,T.ux]
theorem Kt{w:World}{o:Obj}{k:Nat}(h:k<w.heap.size):(w.heap.push o)[k]? =w.heap[k]? :=by
 rw[Array.getElem?_push]
 rw[if_neg I]
theorem Rx{w:World}{o:Obj}:(w.heap.push o)[w.heap.size]? =some o:=by
 rw[Array.getElem?_push];simp
theorem cM.new{φ:F}{σ:H}{w w':World}(h:Rel φ σ w)(o:Obj)(e:w'.heap=w.heap.push o)(aD:w'.os=w.os)(aJ:w'.output=w.output)(B:jq)(n:Nat)
 (ha:B.ro=false) (ad:∀ec:F,φ.le ec->ri ec w' ⟨w.heap.size,0,n⟩ B) (aa:qE w' ⟨w.heap.size,0,n⟩):cM φ σ w (φ.put σ.next ⟨w.heap.size,0,n⟩) (σ.new B) w':=by
 have hle:φ.le (φ.put σ.next ⟨w.heap.size,0,n⟩):=by
  intro b p aB
  have:=(h.kY b p aB).1
  simp only[F.put]
  rw[if_neg I];exact aB
 have old:∀k,k<w.heap.size->w'.heap[k]? =w.heap[k]? :=fun k ah=>by rw[e];exact Kt ah
 have lt:∀b p,φ b=some p->p.b4<w.heap.size:=fun b p aB=>(h.kY b p aB).2.lt
 have nx:∀b B,σ.get b=some B->b≠σ.next:=fun b B eN=>by
  obtain⟨p,aB,_⟩:=h.kc b B eN
  have:=(h.kY b p aB).1
  omega
 refine⟨⟨?_,?_,?_⟩,hle,?_,?_,?_,aD,aJ,?_,?_,?_,?_⟩
 .intro b C cv
  rw[H.pZ]at cv
  by_cases sq:σ.next=b
  .rw[if_pos sq]at cv
   simp at cv;subst cv;subst sq
   exact⟨_,by simp[F.put],ad _ hle⟩
  .rw[if_neg sq]at cv
   obtain⟨p,aB,jB⟩:=h.kc b C cv
   exact⟨p,hle _ _ aB,jB.congr hle (old _ (lt _ _ aB))⟩
 .intro b C b' vf p ql cv n6 aB eV fB
  rw[H.pZ]at cv n6
  simp only[F.put]at aB eV
  by_cases J:σ.next=b<;>by_cases U:σ.next=b'
  .exact J.symm.trans U
  .rw[if_pos J.symm]at aB;rw[if_neg (fun x=>U x.symm)]at eV
   simp at aB;subst aB
   have:=lt _ _ eV
   simp at fB;omega
  .rw[if_neg (fun x=>J x.symm)]at aB;rw[if_pos U.symm]at eV
   simp at eV;subst eV
   have:=lt _ _ aB
   simp at fB;omega
  .rw[if_neg J]at cv;rw[if_neg U]at n6
   rw[if_neg (fun x=>J x.symm)]at aB;rw[if_neg (fun x=>U x.symm)]at eV
   exact h.inj b C b' vf p ql cv n6 aB eV fB
 .intro b p aB
  simp only[F.put]at aB
  split at aB
  .rename_i sq
   simp at aB;subst aB;subst sq
   exact⟨by simp[H.new],aa⟩
  .obtain⟨J,U⟩:=h.kY b p aB
   exact⟨by simp[H.new];omega,U.congr (old _ U.lt)⟩
 .exact fun k ah _=>old k ah
 .rintro k ⟨b,C,p,cv,ha,aB,rfl⟩
  rw[H.pZ]at cv
  by_cases sq:σ.next=b
  .subst sq
   simp[F.put]at aB;subst aB
   exact .inr (Nat.le_refl _)
  .rw[if_neg sq]at cv
   simp only[F.put]at aB
   rw[if_neg (fun x=>sq x.symm)]at aB
   exact .inl ⟨b,C,p,cv,ha,aB,rfl⟩
 .rw[e];simp
 .simp[H.new]
 .intro b az ap
  simp only[F.put]
  rw[if_neg I];exact az
 .intro b C cv ap
  rw[H.pZ,if_neg I]at cv
  exact⟨C,cv,rfl⟩
 .intro b C cv hle
  rw[H.pZ]at cv
  by_cases sq:σ.next=b
  .rw[if_pos sq]at cv
   simp at cv;subst cv;exact ha
  .rw[if_neg sq]at cv
   exact(cM.refl h).fresh b C cv hle
theorem ri.row{φ:F}{w':World}{k:Nat}{l:List V}{l':List Value}(h:eD φ l l')(t:TypeId)(r:Bool)(rest:List Value)(e:w'.heap[k]? =some (.cells ⟨l'++rest⟩ t (0,0))):
 ri φ w' ⟨k,0,l'.length+rest.length⟩ (.cells r l.length (T.ofList .e 0 l)):=by
 refine⟨by simp[h.length],⟨_,_,_,e,aM,fun _=>rfl⟩,fun i aC=>?_⟩
 obtain⟨v',aJ,hv⟩:=h.get i l[i] (by simp[aC])
 refine⟨v',⟨_,_,_,e,?_⟩,?_⟩
 .have ap:i<l'.length:=by rw[<-h.length];exact aC
  simp only[Nat.zero_add,List.getElem?_toArray]
  rw[List.getElem?_append_left ap];exact aJ
 .have:kE (T.ofList .e 0 l) i=l[i]:=by
   simp[kE,T.uw,aC]
  rw[this];exact hv
theorem cM.row{φ:F}{σ:H}{w w':World}(h:Rel φ σ w){l:List V}{l':List Value}(aA:eD φ l l')(t:TypeId)(rest:List Value)(e:w'.heap=w.heap.push (.cells ⟨l'++rest⟩ t (0,0)))(aD:w'.os=w.os)(aJ:w'.output=w.output):
 cM φ σ w (φ.put σ.next ⟨w.heap.size,0,l'.length+rest.length⟩) (σ.new (nB l)) w':=by
 have bP:w'.heap[w.heap.size]? =some (.cells ⟨l'++rest⟩ t (0,0)):=by rw[e];exact Rx
 exact cM.new h _ e aD aJ _ _ rfl (fun ec mQ=>ri.row (aA.mono mQ) t false rest bP) (.inl ⟨_,_,_,bP,aM⟩)
theorem cM.kill{φ:F}{σ:H}{w:World}(h:Rel φ σ w)(b:Nat):cM φ σ w φ (σ.kill b) w:=by
 have get:∀k C,(σ.kill b).get k=some C->σ.get k=some C:=by
  intro k C cv
  rw[H.xr]at cv
  split at cv
  .simp at cv
  .exact cv
 refine⟨⟨fun k C cv=>h.kc k C (get k C cv),fun k C a9 vf p ql cv n6=>h.inj k C a9 vf p ql (get _ _ cv) (get _ _ n6),fun k p aB=>h.kY k p aB⟩,
  F.le_refl φ,fun _ _ _=>rfl,?_,Nat.le_refl _,rfl,rfl,Nat.le_refl _,fun _ h _=>h,fun k C cv _=>⟨C,get k C cv,rfl⟩,fun k C cv=>(cM.refl h).fresh k C (get k C cv)⟩
 rintro k ⟨a,C,p,cv,ha,aB,rfl⟩
 exact .inl ⟨a,C,p,get _ _ cv,ha,aB,rfl⟩
def nr(w:World)(b4:Nat):Nat->List Value->World
 |_,[]=>w
 |i,v::vs=>nr (w.setCell ⟨b4,i,none⟩ v) b4 (i+1) vs
theorem asa{w:World}{b4 i:Nat}{v:Value}{al:Array Value}{t:TypeId}(h:w.heap[b4]? =some (.cells al t (0,0))):
 (w.setCell ⟨b4,i,none⟩ v).heap[b4]? =some (.cells (al.setIfInBounds i v) t (0,0)):=by
 simp[World.setCell,Array.getElem?_modify,h]
theorem aHw{w:World}{b4 i k:Nat}{v:Value}(h:b4≠k):(w.setCell ⟨b4,i,none⟩ v).heap[k]? =w.heap[k]? :=by
 simp[World.setCell,Array.getElem?_modify,h]
theorem aHx{w:World}{a:Addr}{v:Value}:(w.setCell a v).heap.size=w.heap.size:=by simp[World.setCell]
theorem Nr:∀(vs:List Value) (w:World) (b4 i:Nat) (al:Array Value) (t:TypeId),w.heap[b4]? =some (.cells al t (0,0))->i+vs.length<=al.size->
 (∃eT,(nr w b4 i vs).heap[b4]? =some (.cells eT t (0,0))/\eT.size=al.size/\∀j,eT[j]? =if i<=j/\j<i+vs.length then vs[j-i]? else al[j]?)/\
 (∀k,b4≠k->(nr w b4 i vs).heap[k]? =w.heap[k]?)/\(nr w b4 i vs).heap.size=w.heap.size/\(nr w b4 i vs).os=w.os/\(nr w b4 i vs).output=w.output
 |[],w,b4,i,al,t,h,_=>⟨⟨al,h,rfl,fun j=>by rw[if_neg aM]⟩,fun _ _=>rfl,rfl,rfl,rfl⟩
 |v::vs,w,b4,i,al,t,h,ap=>by
  have J:=asa (i:=i) (v:=v) h
  simp at ap
  obtain⟨⟨eT,cR,b7,fF⟩,b,c,d,e⟩:=Nr vs _ b4 (i+1) _ t J (by simp;omega)
  refine⟨⟨eT,cR,by rw[b7];simp,fun j=>?_⟩,fun k ah=>?_,?_,d,e⟩
  .rw[fF j]
   by_cases ax:i+1<=j/\j<i+1+vs.length
   .rw[if_pos ax,if_pos (by simp;omega),show j-i=(j- (i+1))+1 from I];simp
   .rw[if_neg ax]
    by_cases e:i=j
    .subst e
     rw[if_pos aM]
     simp[Array.getElem?_setIfInBounds];omega
    .rw[if_neg (by simp;omega)]
     simp[e]
  .show(nr (w.setCell ⟨b4,i,none⟩ v) b4 (i+1) vs).heap[k]? =_
   rw[b k ah,aHw ah]
  .show(nr (w.setCell ⟨b4,i,none⟩ v) b4 (i+1) vs).heap.size=_
   rw[c,aHx]
theorem Na{P:Program}:∀(vs:List Value) (w:World) (b4 o i:Nat) (al:Array Value) (t:TypeId),w.heap[b4]? =some (.cells al t (0,0))->o+i+vs.length<=al.size->(∀v∈vs,v.oneCell'=true)->
 (storeCells ⟨b4,o,none⟩ vs i).run P w= .ok () (nr w b4 (o+i) vs)
 |[],w,b4,o,i,al,t,_,_,_=>rfl
 |v::vs,w,b4,o,i,al,t,h,ap,hv=>by
  simp at ap
  have af:w.cell? ⟨b4,o+i,none⟩=some al[o+i]:=by simp[World.cell?,h]
  have aV:w.frozen? ⟨b4,o+i,none⟩=false:=by simp[World.frozen?,h]
  have J:=asa (i:=o+i) (v:=v) h
  have c0:=Na (P:=P) vs _ b4 o (i+1) _ t J (by simp;omega) (fun u hu=>hv u (by simp[hu]))
  simp only[storeCells,Sem.run_bind,add_eq]
  rw[run_store P w _ v _ (hv v aM),af]
  simp only[aV,Bool.false_eq_true,if_false,Result.andThen_ok]
  rw[c0]
  rfl
theorem cM.store{φ:F}{σ σ':H}{w:World}(h:Rel φ σ w){b o:Nat}{vs:List V}{hy:List Value}(aa:σ.pe b o vs=some σ')(hv:eD φ vs hy):
 ∃p,φ b=some p/\cM φ σ w φ σ' (nr w p.b4 (p.off+o) hy)/\∀P:Program,(storeCells ⟨p.b4,p.off+o,none⟩ hy).run P w= .ok () (nr w p.b4 (p.off+o) hy):=by
 unfold H.pe at aa
 split at aa
 .rename_i m c ad
  split at aa
  .rename_i af
   obtain⟨hle,qP⟩:=af
   simp at aa;subst aa
   obtain⟨p,aB,hh,⟨al,t,eI,aD,aJ,hg⟩,cC⟩:=h.kc b _ ad
   have hg:=hg rfl
   subst hg
   have hlen:=hv.length
   have RR:p.off+o+hy.length<=al.size:=I
   obtain⟨⟨eT,cR,b7,fF⟩,oK,Nx,au,K0⟩:=Nr hy w p.b4 (p.off+o) al t aD RR
   have DG:∀v∈hy,v.oneCell'=true:=by
    intro v' ga
    obtain⟨i,aC⟩:=List.getElem?_of_mem ga
    have ap:i<vs.length:=by rw[hlen];exact(List.getElem?_eq_some_iff.1 aC).1
    obtain⟨bj,e,r⟩:=hv.get i vs[i] (by simp[ap])
    rw[aC]at e;simp at e;subst e
    exact r.T2 ((List.all_eq_true.1 qP) _ (List.getElem_mem ap))
   refine⟨p,aB,?_,fun P=>by simpa using Na (P:=P) hy w p.b4 (p.off+o) 0 al t aD (by simpa using RR) DG⟩
   refine⟨⟨?_,?_,?_⟩,F.le_refl φ,?_,?_,by rw[Nx];exact Nat.le_refl _,au,K0,Nat.le_refl _,fun _ h _=>h,?_,?_⟩
   .intro k C cv
    rw[H.k1]at cv
    by_cases ah:b=k
    .rw[if_pos ah]at cv
     simp at cv;subst cv;subst ah
     refine⟨p,aB,hh,⟨eT,t,_,cR,by rw[b7,aJ],fun _=>rfl⟩,fun i aC=>?_⟩
     by_cases tj:o<=i/\i<o+vs.length
     .obtain⟨v',aW,tN⟩:=hv.get (i-o) vs[i-o] aM
      refine⟨v',⟨eT,t,_,cR,?_⟩,?_⟩
      .rw[fF,if_pos I,show p.off+i- (p.off+o)=i-o from I];exact aW
      .have:kE (c.ofList o vs) i=vs[i-o]:=by
        simp only[kE,T.uw,if_pos tj]
        rw[List.getElem?_eq_getElem I];rfl
       rw[this];exact tN
     .obtain⟨v',⟨CD,t2,_,f1,f2⟩,tN⟩:=cC i aC
      rw[aD]at f1;simp at f1;obtain⟨rfl,rfl,rfl⟩:=f1
      refine⟨v',⟨eT,t,_,cR,?_⟩,?_⟩
      .rw[fF,if_neg I];exact f2
      .have:kE (c.ofList o vs) i=kE c i:=by simp only[kE,T.uw,if_neg tj]
       rw[this];exact tN
    .rw[if_neg ah]at cv
     obtain⟨q,av,ak⟩:=h.kc k C cv
     refine⟨q,av,ak.congr (F.le_refl φ) (oK _ ?_)⟩
     intro fB
     exact ah (h.inj b _ k C p q ad cv aB av fB)
   .intro k C a9 vf q sM cv n6 av fT fB
    have g:∀k C,(σ.set b (.cells false m (c.ofList o vs))).get k=some C->∃Iq,σ.get k=some Iq:=by
     intro k C cv
     rw[H.k1]at cv
     by_cases ah:b=k
     .subst ah;exact⟨_,ad⟩
     .rw[if_neg ah]at cv;exact⟨_,cv⟩
    obtain⟨_,cv⟩:=g k C cv
    obtain⟨_,n6⟩:=g a9 vf n6
    exact h.inj k _ a9 _ q sM cv n6 av fT fB
   .intro k q av
    obtain⟨J,U⟩:=h.kY k q av
    refine⟨J,?_⟩
    by_cases fB:p.b4=q.b4
    .rcases U with⟨CD,t2,_,f1,f2⟩|⟨es,fg,f1⟩|⟨_,_,_,_,f1⟩
     .rw[<-fB,aD]at f1;simp at f1;obtain⟨rfl,rfl,rfl⟩:=f1
      exact .inl ⟨eT,t,_,by rw[<-fB];exact cR,by rw[b7,f2]⟩
     .rw[<-fB,aD]at f1;simp at f1
     .rw[<-fB,aD]at f1;simp at f1
    .exact U.congr (oK _ fB)
   .intro k ah aV
    refine oK k fun fB=>aV ⟨b,_,p,ad,rfl,aB,fB⟩
   .rintro k ⟨a,C,q,cv,ha,av,rfl⟩
    rw[H.k1]at cv
    by_cases ah:b=a
    .subst ah
     exact .inl ⟨b,_,q,ad,rfl,av,rfl⟩
    .rw[if_neg ah]at cv
     exact .inl ⟨a,C,q,cv,ha,av,rfl⟩
   .intro k C cv _
    rw[H.k1]at cv
    by_cases ah:b=k
    .subst ah
     simp at cv;subst cv
     exact⟨_,ad,rfl⟩
    .rw[if_neg ah]at cv;exact⟨C,cv,rfl⟩
   .intro k C cv hle
    rw[H.k1]at cv
    by_cases ah:b=k
    .subst ah
     simp at cv;subst cv;rfl
    .rw[if_neg ah]at cv;exact(cM.refl h).fresh k C cv hle
  .simp at aa
 .simp at aa
theorem cM.H2{φ:F}{σ:H}{w w':World}(h:Rel φ σ w){b:Nat}{es JI:List (V×V)}(ad:σ.get b=some (.map false es)){p:pQ}(aB:φ b=some p){dh:Array MapEntry}{fg:Nat}
 (e:w'.heap=w.heap.setIfInBounds p.b4 (.map dh fg)) (aD:w'.os=w.os) (aJ:w'.output=w.output) (ak:l6 φ JI dh.toList) (fs:Go.MapKept.Stamped dh fg):cM φ σ w φ (σ.set b (.map false JI)) w':=by
 obtain⟨ql,eV,uI,aKl,aKc,a5,_⟩:=h.kc b _ ad
 rw[aB]at eV;simp at eV;subst eV
 have ap:=Hc a5
 have cR:w'.heap[p.b4]? =some (.map dh fg):=by rw[e];simp[ap]
 have oK:∀k,p.b4≠k->w'.heap[k]? =w.heap[k]? :=fun k ah=>by rw[e];simp[ah]
 refine⟨⟨?_,?_,?_⟩,F.le_refl φ,?_,?_,by rw[e];simp,aD,aJ,Nat.le_refl _,fun _ h _=>h,?_,?_⟩
 .intro k C cv
  rw[H.k1]at cv
  by_cases ah:b=k
  .rw[if_pos ah]at cv
   simp at cv;subst cv;subst ah
   exact⟨p,aB,uI,dh,fg,cR,ak,fun _=>fs⟩
  .rw[if_neg ah]at cv
   obtain⟨q,av,ak⟩:=h.kc k C cv
   exact⟨q,av,ak.congr (F.le_refl φ) (oK _ fun fB=>ah (h.inj b _ k C p q ad cv aB av fB))⟩
 .intro k C a9 vf q sM cv n6 av fT fB
  have g:∀k C,(σ.set b (.map false JI)).get k=some C->∃Iq,σ.get k=some Iq:=by
   intro k C cv
   rw[H.k1]at cv
   by_cases ah:b=k
   .subst ah;exact⟨_,ad⟩
   .rw[if_neg ah]at cv;exact⟨_,cv⟩
  obtain⟨_,cv⟩:=g k C cv
  obtain⟨_,n6⟩:=g a9 vf n6
  exact h.inj k _ a9 _ q sM cv n6 av fT fB
 .intro k q av
  obtain⟨J,U⟩:=h.kY k q av
  refine⟨J,?_⟩
  by_cases fB:p.b4=q.b4
  .exact .inr (.inl ⟨dh,fg,by rw[<-fB];exact cR⟩)
  .exact U.congr (oK _ fB)
 .intro k ah aV
  exact oK k fun fB=>aV ⟨b,_,p,ad,rfl,aB,fB⟩
 .rintro k ⟨a,C,q,cv,ha,av,rfl⟩
  rw[H.k1]at cv
  by_cases ah:b=a
  .subst ah
   exact .inl ⟨b,_,q,ad,rfl,av,rfl⟩
  .rw[if_neg ah]at cv
   exact .inl ⟨a,C,q,cv,ha,av,rfl⟩
 .intro k C cv _
  rw[H.k1]at cv
  by_cases ah:b=k
  .subst ah
   simp at cv;subst cv
   exact⟨_,ad,rfl⟩
  .rw[if_neg ah]at cv;exact⟨C,cv,rfl⟩
 .intro k C cv hle
  rw[H.k1]at cv
  by_cases ah:b=k
  .subst ah
   simp at cv;subst cv;rfl
  .rw[if_neg ah]at cv;exact(cM.refl h).fresh k C cv hle
theorem Ha{φ:F}{σ:H}{w:World}(h:Rel φ σ w){P:Program}{t:TypeId}{n:Nat}{g:Bool}(az:jQ P t=some n)(aw:se P t=some g){a v:V}{a':Value}(a3:cu φ a a')(aA:oh σ n g a=some v):
 ∃v' p,a'= .pointer (some p)/\(loadVar t p).run P w= .ok v' w/\cu φ v v':=by
 unfold oh at aA
 split at aA
 .rename_i b o
  obtain⟨p,aB,rfl⟩:=a3.x8
  split at aA
  .rename_i al cC
   obtain⟨hlen,q,av,hle,l',p',af⟩:=h.l2 cC
   rw[aB]at av;simp at av;subst av
   have aAj:=p'.length
   split at aA
   .rename_i Ds
    subst Ds
    simp at aA;subst aA
    refine⟨.agg ⟨l'⟩,_,rfl,?_,.agg _ _ p'⟩
    have:=run_loadCells_list (P:=P) (w:=w) ⟨p.b4,p.off+o,none⟩ l' (fun j v ax=>by rw[add_eq];exact(af j v ax).cell)
    rw[<-aAj,hlen]at this
    simp[loadVar,HP aw,mX az,this]
   .rename_i vT
    have vT:g=false:=by simpa using vT
    subst vT
    obtain⟨v',e,r⟩:=p'.get 0 v aA
    have:=(af 0 v' e).cell
    refine⟨v',_,rfl,?_,r⟩
    simp at this
    simp[loadVar,HP aw,this]
  .simp at aA
 .simp at aA
section
def CC(P:Program)(aQ:List Nat):Go.Op->Option pq
 | .alloc t=>(zeroOf P t).map fun z=>.alloc z.cells
 | .box _ x=>(eS aQ x).map .box
 | .buildSlice t len parts=>match P.underlying t with
   |some (.slice e)=>match jQ P e,zeroOf P e with
    |some (n+1),some z=>if z.cells.length=n+1 then(zZ aQ (fun i=>some (i*(n+1),n+1)) parts.toList).map (.ul len (n+1) z.cells)else none
    |_,_=>none
   |_=>none
 | .makeSlice t l c=>match P.underlying t with
   |some (.slice e)=>match P.info? e,zeroOf P e with
    |some i,some z=>if z.cells.length=i.size/\0<i.size then kX aQ l c (.mkSlice i.size i.bytes z.cells)else none
    |_,_=>none
   |_=>none
 | .makeMap _ none=>some .mkMap
 |_=>none
def at7(P:Program)(φ:F)(ρ':Operand->Value)(o:Oper)(B:jq)(mk:Nat->V):Prop:=
 B.ro=false/\∀w:World,∃v' obj n,(execOp ρ' o).run P w= .ok (.value v') {w with heap:=w.heap.push obj}/\
  (∀(w':World) k (ec:F),φ.le ec->w'.heap[k]? =some obj->ri ec w' ⟨k,0,n⟩ B/\qE w' ⟨k,0,n⟩)/\
  ∀(ec:F) id,ec id=some ⟨w.heap.size,0,n⟩->cu ec (mk id) v'
theorem Ew{φ:F}{l:List V}{l':List Value}(aA:eD φ l l')(t:TypeId)(w':World)(k:Nat)(ec:F)(h:φ.le ec)(e:w'.heap[k]? =some (.cells ⟨l'⟩ t (0,0))):
 ri ec w' ⟨k,0,l'.length⟩ (nB l)/\qE w' ⟨k,0,l'.length⟩:=
 ⟨by have:=ri.row (aA.mono h) t false [] (k:=k) (w':=w') (by simpa using e);simpa[nB]using this,.inl ⟨_,_,_,e,aM⟩⟩
theorem aF1{dt:List V}:∀(n i:Nat),i<n*dt.length->(im dt n)[i]? =dt[i%dt.length]? :=by
 intro n
 induction n with
 |zero=>intro i h;simp at h
 |succ n c0=>
  intro i h
  simp only[im]
  by_cases aC:i<dt.length
  .rw[List.getElem?_append_left aC,Nat.mod_eq_of_lt aC]
  .rw[List.getElem?_append_right I,c0 _ (by rw[Nat.succ_mul]at h;omega)]
   congr 1
   exact(Nat.mod_eq_sub_mod I).symm
theorem M1(dt:List V)(n:Nat):(im dt n).length=n*dt.length:=by
 induction n with
 |zero=>simp[im]
 |succ n c0=>simp[im,c0,Nat.succ_mul,Nat.add_comm]
theorem M2{φ:F}{dt:List V}{yo:List Value}(bB:eD φ dt yo)(n:Nat):
 eD φ (im dt n) ((Array.range (n*yo.length)).map (fun i=>(⟨yo⟩:Array Value)[i%yo.length]!)).toList:=by
 have aA:=bB.length
 refine eD.Ef (by simp[M1,aA]) fun i v aC=>?_
 have ap:i<n*dt.length:=by
  have:=(List.getElem?_eq_some_iff.1 aC).1
  rwa [M1]at this
 rw[aF1 n i ap]at aC
 obtain⟨v',e,r⟩:=bB.get _ _ aC
 rw[aA]at e ap
 exact⟨v',by simp;exact⟨i,List.getElem?_range ap,by simp[e]⟩,r⟩
theorem Hq{φ:F}{P:Program}{t:TypeId}{z:V}(h:zeroOf P t=some z)(w:World):∃z',(zeroValue t).run P w= .ok z' w/\eD φ z.cells z'.cells.toList:=by
 obtain⟨z',a,b⟩:=Ex h φ w
 have ah:z.known=true:=by
  unfold zeroOf at h
  obtain⟨v',_,bB⟩:=Option.bind_eq_some_iff.1 h
  unfold ofValue at bB
  split at bB
  .obtain⟨l,_,rfl⟩:=eY bB;rfl
  .unfold BG at bB
   split at bB<;>simp at bB<;>subst bB<;>rfl
 exact⟨z',a,b.cells ah⟩
section
variable{P:Program}{aQ:List Nat}{φ:F}{ρ:aG->V}{ρ':Operand->Value}
theorem wrap_small{n:Int}(a5:0<=n)(J:n<4611686018427387904):IntKind.i64.wrap n=n:=IntWalk.i64_in n I
theorem aeD:Array.range 0= #[]:=rfl
theorem Th(he:Env φ aQ ρ ρ'){o:Oper}{x:pq}(af:CC P aQ o.op=some x){B:jq}{mk:Nat->V}(aa:nT ρ x=some (B,mk)):at7 P φ ρ' o B mk:=by
 cases au:o.op<;>rw[au]at af<;>simp only[CC]at af<;>try(simp at af;done)
 case alloc t=>
  obtain⟨z,bB,rfl⟩:=eY af
  simp[nT]at aa
  obtain⟨rfl,rfl⟩:=aa
  refine⟨rfl,fun w=>?_⟩
  obtain⟨z',a,b⟩:=Hq (φ:=φ) bB w
  refine⟨.pointer (some ⟨w.heap.size,0,none⟩),.cells z'.cells t,z'.cells.toList.length,?_,fun w' k ec mQ e=>Ew b t w' k ec mQ (by simpa using e),fun ec id e=>?_⟩
  .simp[execOp,au,Instr.alloc,a,newVar,newRow]
  .have:=cu.ptr (φ:=ec) id 0 _ e;simpa using this
 case box t q=>
  obtain⟨a,a3,rfl⟩:=eY af
  simp[nT]at aa
  obtain⟨ah,rfl,rfl⟩:=aa
  refine⟨rfl,fun w=>?_⟩
  have b:=(he _ _ a3).cells ah
  refine⟨.pointer (some ⟨w.heap.size,0,none⟩),.cells (ρ' q).cells t,(ρ' q).cells.toList.length,?_,fun w' k ec mQ e=>Ew b t w' k ec mQ (by simpa using e),fun ec id e=>?_⟩
  .simp[execOp,au,Instr.box,newVar,newRow]
  .have:=cu.ptr (φ:=ec) id 0 _ e;simpa using this
 case buildSlice t len parts=>
  split at af
  .rename_i e bg
   split at af
   .rename_i n z az bB
    split at af
    .rename_i hlen
     obtain⟨l,aA,rfl⟩:=eY af
     simp only[nT]at aa
     split at aa
     .rename_i hh
      obtain⟨al,cC,bd⟩:=eY aa
      simp at bd
      obtain⟨rfl,rfl⟩:=bd
      refine⟨rfl,fun w=>?_⟩
      obtain⟨z',k6,oe⟩:=Hq (φ:=φ) bB w
      have zv:=oe.length
      rw[hlen]at zv
      by_cases ku:len*(n+1)=0
      .have aAb:len=0:=by
        rcases Nat.mul_eq_zero.1 ku with h|h
        .exact h
        .omega
       subst aAb
       have base:eD φ (im z.cells 0) ([]:List Value):=.nil
       obtain⟨r',J,U⟩:=CM he (fun i=>some (i*(n+1),n+1)) aA base cC
       refine⟨.slice (some ⟨w.heap.size,0,none⟩) 0 0,.cells ⟨r'⟩ e,r'.length,?_,fun w' k ec mQ aJ=>Ew U e w' k ec mQ aJ,fun ec id aJ=>.yb _ _ _ _⟩
       have aV:Instr.fill (fun i=>some (i*(n+1),n+1)) ⟨[]⟩ (parts.map fun p=>(p.1,ρ' p.2)).toList=some ⟨r'⟩:=by simpa using J
       simp at aV
       simp[execOp,au,Instr.buildSlice,run_underlying bg,mX az,aV,newRow,aeD]
      .have base:=M2 oe len
       obtain⟨r',J,U⟩:=CM he (fun i=>some (i*(n+1),n+1)) aA base cC
       have ke:r'.length=len*(n+1):=by
        rw[<-U.length]
        have:∀(hk:List (Nat×Nat×V)) (c r:List V),pY c hk=some r->r.length=c.length:=by
         intro hk
         induction hk with
         |nil=>intro c r h;simp[pY]at h;rw[h]
         |cons p hk c0=>
          intro c r h
          obtain⟨a,b,v⟩:=p
          simp only[pY]at h
          split at h
          .simp at h
          .rw[c0 _ _ h]
           have:∀(vs:List V) (c:List V) (i:Nat),(nQ c i vs).length=c.length:=by
            intro vs
            induction vs with
            |nil=>intro c i;rfl
            |cons u vs c0=>intro c i;simp[nQ,c0]
           exact this _ _ _
        rw[this _ _ _ cC,M1,hlen]
       refine⟨.slice (some ⟨w.heap.size,0,none⟩) len len,.cells ⟨r'⟩ e,r'.length,?_,fun w' k ec mQ aJ=>Ew U e w' k ec mQ aJ,fun ec id aJ=>?_⟩
       .have aV:Instr.fill (fun i=>some (i*(n+1),n+1)) ((Array.range (len*(n+1))).map (fun i=>z'.cells[i% (n+1)]!)) (parts.map fun p=>(p.1,ρ' p.2)).toList=some ⟨r'⟩:=by
         have aD:z'.cells.toList.length=n+1:=zv.symm
         rw[aD]at J
         rw[Array.toList_map]
         exact J
        have aD:z'.cells.size=n+1:=by simpa using zv.symm
        have ayu:¬(len*(n+1)>2 ^ 24):=I
        simp at aV
        simp[execOp,au,Instr.buildSlice,run_underlying bg,mX az,k6,newRow,aD,ku,aV,ayu]
       .have:=cu.slice (φ:=ec) id 0 len len (n+1) len _ aJ (Nat.le_refl _) (Nat.le_refl _) (by simp[ke])
        simpa using this
     .simp at aa
    .simp at af
   .simp at af
  .simp at af
 case makeSlice t l c=>
  split at af
  .rename_i e bg
   split at af
   .rename_i i z aC bB
    split at af
    .rename_i hlen
     obtain⟨hlen,xN⟩:=hlen
     obtain⟨cR,b1,a3,ad,rfl⟩:=o2 af
     have iz:=he _ _ a3
     have gp:=he _ _ ad
     simp only[nT]at aa
     split at aa
     .rename_i a b aD aJ
      rw[aD]at iz;rw[aJ]at gp
      split at aa
      .rename_i Ko
       obtain⟨c1,c2,eu,jH⟩:=Ko
       simp at aa
       obtain⟨rfl,rfl⟩:=aa
       refine⟨rfl,fun w=>?_⟩
       obtain⟨z',k6,oe⟩:=Hq (φ:=φ) bB w
       have zv:=oe.length
       rw[hlen]at zv
       have NK:=wrap_small c1 I
       have yj:=wrap_small (n:=b) I I
       obtain⟨mC,rfl⟩:=Int.eq_ofNat_of_zero_le (I:0<=b)
       obtain⟨Ct,rfl⟩:=Int.eq_ofNat_of_zero_le c1
       have base:=M2 oe mC
       have aw6:z'.cells.toList.length=i.size:=zv.symm
       have aw7:z'.cells.size=i.size:=by simpa using zv.symm
       rw[aw6]at base
       have hh:(sizeOf e).run P w= .ok i.size w:=by simp[sizeOf,typeInfo,aC]
       have GG:(typeInfo e).run P w= .ok i w:=by simp[typeInfo,aC]
       have Rj:¬((i.bytes:Int)*(mC:Int)>2 ^ 48):=by
        have:i.bytes*mC<=1024*1048576:=Nat.mul_le_mul jH I
        have:((i.bytes*mC:Nat):Int)<=1024*1048576:=I
        rw[Int.natCast_mul]at this
        omega
       have aza:¬((i.bytes:Int)*(mC:Int)>281474976710656):=I
       refine⟨.slice (some ⟨w.heap.size,0,none⟩) Ct mC,.cells ((Array.range (mC*i.size)).map (fun j=>z'.cells[j%i.size]!)) e,mC*i.size,?_,fun w' k ec mQ aJ=>?_,fun ec id aJ=>?_⟩
       .by_cases vI:mC=0
        .subst vI
         have avc:Ct=0:=I
         subst avc
         have w0:IntKind.i64.wrap 0=0:=by decide
         simp[execOp,au,Instr.makeSlice,run_underlying bg,iz.jD,gp.jD,asInt,asIntOf,GG,hh,w0,newRow,aeD]
        .have vZ:¬(mC*i.size=0):=by
          intro h
          rcases Nat.mul_eq_zero.1 h with h|h<;>omega
         have KU:¬(mC<Ct):=I
         have c5:¬((mC:Int)<0):=I
         have cQ:¬((Ct:Int)<0):=I
         simp[execOp,au,Instr.makeSlice,run_underlying bg,iz.jD,gp.jD,asInt,asIntOf,GG,hh,NK,yj,newRow,k6,aw7,vZ,aza,KU,c5,cQ]
       .have:=Ew base e w' k ec mQ aJ
        simpa using this
       .have:=cu.slice (φ:=ec) id 0 Ct mC i.size mC _ aJ I (Nat.le_refl _) aM
        simpa using this
      .simp at aa
     .simp at aa
    .simp at af
   .simp at af
  .simp at af
 case makeMap t r=>
  cases r with
  |some r=>simp at af
  |none=>
   simp at af;subst af
   simp[nT]at aa
   obtain⟨rfl,rfl⟩:=aa
   refine⟨rfl,fun w=>?_⟩
   refine⟨.map (some w.heap.size),.map #[] 0,0,?_,fun w' k ec mQ e=>⟨⟨rfl, #[],0,e,?_,fun _=>Go.MapKept.stamped_empty 0⟩,.inr (.inl ⟨_,_,e⟩)⟩,fun ec id e=>?_⟩
   .simp[execOp,au,Instr.makeMap]
   .exact⟨rfl,aM,aM,aM,aM,aM⟩
   .exact .map id _ e
end
end
section
theorem SH{j k:IntKind}{n m:Int}:l1 (.int j n) (.int k m)=if j=k then some (n==m)else none:=rfl
theorem SI{k e:V}(h:(l1 k e).isSome=true):∃j n m,k= .int j n/\e= .int j m:=by
 unfold l1 at h
 split at h
 .split at h
  .rename_i a b c ah
   exact⟨_,_,_,rfl,by rw[ah]⟩
  .simp at h
 .simp at h
theorem zC{k e:V}:l1 k e=some true↔ ∃j n,k= .int j n/\e= .int j n:=by
 constructor
 .intro h
  obtain⟨j,n,m,rfl,rfl⟩:=SI (by rw[h];rfl)
  rw[SH,if_pos rfl]at h
  simp at h
  exact⟨j,n,rfl,by rw[h]⟩
 .rintro⟨j,n,rfl,rfl⟩
  simp[SH]
theorem x0{α:Type}{l:List α}(h:l.Nodup){i k:Nat}(aC:i<l.length)(ah:k<l.length)(e:l[i]=l[k]):i=k:=by
 have:=List.pairwise_iff_getElem.1 h
 rcases Nat.lt_trichotomy i k with ap|rfl|ap
 .exact absurd e (this i k aC ah ap)
 .rfl
 .exact absurd e.symm (this k i ah aC ap)
section
variable{j:IntKind}{n:Int}
def aJ7(j:IntKind)(es:List (V×V)):Prop:=∀e∈es,∃m,e.1= .int j m
theorem JO:∀{es:List (V×V)} {v:V},kG (.int j n) es=some v->(V.int j n,v)∈es
 |[],_,h=>by simp[kG]at h
 |(a9,v')::r,v,h=>by
  simp only[kG]at h
  split at h
  .rename_i ah
   obtain⟨GW,n',aD,aJ⟩:=zC.1 ah
   simp at h;subst h
   rw[aJ,<-aD];simp
  .exact List.mem_cons_of_mem _ (JO h)
theorem F1:∀{es:List (V×V)},kG (.int j n) es=none->∀e∈es,e.1≠ .int j n
 |[],_=>aM
 |(a9,v')::r,h=>by
  simp only[kG]at h
  split at h
  .simp at h
  .rename_i ah
   intro e he
   rcases List.mem_cons.1 he with rfl|he
   .intro ay
    exact ah (zC.2 ⟨j,n,rfl,ay⟩)
   .exact F1 h e he
theorem wq(v:V):∀{es:List (V×V)},(es.map (·.1)).Nodup->∀e,e∈nR (.int j n) v es↔(e=(.int j n,v)\/(e∈es/\e.1≠ .int j n))
 |[],_,e=>by simp[nR]
 |(a9,v')::r,az,e=>by
  simp only[List.map_cons,List.nodup_cons]at az
  simp only[nR]
  split
  .rename_i ah
   obtain⟨GW,n',aD,aJ⟩:=zC.1 ah
   have aJ:a9= .int j n:=by rw[aJ,<-aD]
   subst aJ
   simp only[List.mem_cons]
   constructor
   .rintro(rfl|h)
    .exact .inl rfl
    .exact .inr ⟨.inr h,fun ay=>az.1 (by rw[<-ay];exact List.mem_map_of_mem h)⟩
   .rintro(rfl|⟨rfl|h,ay⟩)
    .exact .inl rfl
    .exact absurd rfl ay
    .exact .inr h
  .rename_i ah
   have gg:a9≠ .int j n:=fun h=>ah (zC.2 ⟨j,n,rfl,h⟩)
   simp only[List.mem_cons,wq v az.2]
   constructor
   .rintro(rfl|rfl|⟨h,ay⟩)
    .exact .inr ⟨.inl rfl,gg⟩
    .exact .inl rfl
    .exact .inr ⟨.inr h,ay⟩
   .rintro(rfl|⟨rfl|h,ay⟩)
    .exact .inr (.inl rfl)
    .exact .inl rfl
    .exact .inr (.inr ⟨h,ay⟩)
theorem Lv(v:V):∀{es:List (V×V)},(nR (.int j n) v es).map (·.1)=if(kG (.int j n) es).isSome then es.map (·.1)else es.map (·.1)++[.int j n]
 |[]=>by simp[nR,kG]
 |(a9,v')::r=>by
  simp only[nR,kG]
  split
  .rename_i ah
   obtain⟨GW,n',aD,aJ⟩:=zC.1 ah
   have aJ:a9= .int j n:=by rw[aJ,<-aD]
   subst aJ
   simp
  .simp only[List.map_cons,Lv v (es:=r)]
   split<;>simp
theorem D3:∀{es:List (V×V)},(es.map (·.1)).Nodup->∀e,e∈mE (.int j n) es↔(e∈es/\e.1≠ .int j n)
 |[],_,e=>by simp[mE]
 |(a9,v')::r,az,e=>by
  simp only[List.map_cons,List.nodup_cons]at az
  simp only[mE]
  split
  .rename_i ah
   obtain⟨GW,n',aD,aJ⟩:=zC.1 ah
   have aJ:a9= .int j n:=by rw[aJ,<-aD]
   subst aJ
   simp only[List.mem_cons]
   constructor
   .intro h
    exact⟨.inr h,fun ay=>az.1 (by rw[<-ay];exact List.mem_map_of_mem h)⟩
   .rintro⟨rfl|h,ay⟩
    .exact absurd rfl ay
    .exact h
  .rename_i ah
   have gg:a9≠ .int j n:=fun h=>ah (zC.2 ⟨j,n,rfl,h⟩)
   simp only[List.mem_cons,D3 az.2]
   constructor
   .rintro(rfl|⟨h,ay⟩)
    .exact⟨.inl rfl,gg⟩
    .exact⟨.inr h,ay⟩
   .rintro⟨rfl|h,ay⟩
    .exact .inl rfl
    .exact .inr ⟨h,ay⟩
theorem Ns:∀{es:List (V×V)},(mE (.int j n) es).Sublist es
 |[]=>by simp[mE]
 |(a9,v')::r=>by
  simp only[mE]
  split
  .exact List.sublist_cons_self _ _
  .exact Ns.cons_cons _
theorem LG:∀{es:List (V×V)},(mE (.int j n) es).length=if(kG (.int j n) es).isSome then es.length-1 else es.length
 |[]=>by simp[mE,kG]
 |(a9,v')::r=>by
  simp only[mE,kG]
  split
  .simp
  .rename_i ah
   simp only[List.length_cons,LG (es:=r)]
   cases aV:kG (.int j n) r with
   |none=>simp
   |some v=>
    have:=JO aV
    have:0<r.length:=List.length_pos_of_mem this
    simp;omega
theorem QT(eX:IntKind):∀(es:List MapEntry) (i:Nat),(∀e∈es,∃m,e.key= .int j m)->
 ∃r,Instr.findNow (.int eX) (.int j n) es i=some r/\
  ((r=none/\∀e∈es,e.key≠ .int j n)\/∃q e,r=some (i+q,e.val)/\es[q]? =some e/\e.key= .int j n)
 |[],i,_=>⟨none,rfl,.inl ⟨rfl,aM⟩⟩
 |e::es,i,h=>by
  obtain⟨m,hm⟩:=h e aM
  simp only[Instr.findNow,hm,Instr.sameNow]
  by_cases zf:n=m
  .subst zf
   exact⟨some (i,e.val),aM,.inr ⟨0,e,aM,aM,hm⟩⟩
  .obtain⟨r,J,U⟩:=QT eX es (i+1) (fun e he=>h e (by simp[he]))
   have ad:(n==m)=false:=by simpa using zf
   refine⟨r,by simp[ad,J],?_⟩
   rcases U with⟨rfl,U⟩|⟨q,ee,rfl,aq,aK⟩
   .refine .inl ⟨rfl,fun ee xx=>?_⟩
    rcases List.mem_cons.1 xx with rfl|xx
    .rw[hm];intro ay;simp at ay;exact zf ay.symm
    .exact U ee xx
   .exact .inr ⟨q+1,ee,by simp;omega,by simpa using aq,aK⟩
end
section
variable{φ:F}{es:List (V×V)}{dh:List MapEntry}{j:IntKind}{n:Int}
theorem l6.keys(h:l6 φ es dh)(ah:es.all (fun e=>(l1 (.int j n) e.1).isSome)=true):∀e∈dh,∃m,e.key= .int j m:=by
 intro ee xx
 obtain⟨e,he,J,_⟩:=h.of ee xx
 have:=List.all_eq_true.1 ah e he
 obtain⟨GW,n',hW,aD,aJ⟩:=SI this
 rw[aJ]at J
 have:=J.jD
 simp at aD
 exact⟨hW,by rw[this,aD.1]⟩
theorem l6.find(h:l6 φ es dh)(ah:es.all (fun e=>(l1 (.int j n) e.1).isSome)=true)(eX:IntKind):
 match kG (.int j n) es with
 |some v=>∃q ee,Instr.findNow (.int eX) (.int j n) dh 0=some (some (q,ee.val))/\dh[q]? =some ee/\ee.key= .int j n/\cu φ v ee.val
 |none=>Instr.findNow (.int eX) (.int j n) dh 0=some none/\∀ee∈dh,ee.key≠ .int j n:=by
 obtain⟨r,J,U⟩:=QT (j:=j) (n:=n) eX dh 0 (h.keys ah)
 cases aV:kG (.int j n) es with
 |some v=>
  have hm:=JO aV
  obtain⟨ee,xx,a,b⟩:=h.ir _ hm
  have Rz:=a.jD
  rcases U with⟨_,U⟩|⟨q,aJ,rfl,aq,aK⟩
  .exact absurd Rz (U ee xx)
  .have:aJ=ee:=by
    have rI:=List.mem_of_getElem? aq
    obtain⟨i1,xz⟩:=List.getElem?_of_mem xx
    have:=h.xZ
    have dE:=(List.getElem?_eq_some_iff.1 xz).1
    have dC:=(List.getElem?_eq_some_iff.1 aq).1
    have aD:(dh.map (·.key))[i1]'(by simpa using dE)=(dh.map (·.key))[q]'(by simpa using dC):=by
     simp only[List.getElem_map]
     rw[(List.getElem?_eq_some_iff.1 xz).2,(List.getElem?_eq_some_iff.1 aq).2,aK];exact Rz
    have:=x0 this _ _ aD
    subst this
    rw[aq]at xz;simpa using xz
   subst this
   refine⟨q,aJ,?_,aq,aK,b⟩
   simpa using J
 |none=>
  have az:=F1 aV
  rcases U with⟨rfl,U⟩|⟨q,aJ,rfl,aq,aK⟩
  .exact⟨J,U⟩
  .exfalso
   obtain⟨e,he,a,_⟩:=h.of aJ (List.mem_of_getElem? aq)
   rw[aK]at a
   obtain⟨a9,n',aC⟩:=h.ints e he
   rw[aC]at a
   have:=a.jD
   simp at this
   exact az e he (by rw[aC,this.1,this.2])
theorem aDJ{dh:List MapEntry}{q:Nat}{ee:MapEntry}(h:(dh.map (·.key)).Nodup)(av:dh[q]? =some ee)(x:MapEntry)(aj:x.key=ee.key):((dh.set q x).map (·.key)).Nodup:=by
 have:(dh.set q x).map (·.key)=dh.map (·.key):=by
  rw[List.map_set,aj]
  apply List.ext_getElem?
  intro i
  rw[List.getElem?_set]
  by_cases aC:q=i
  .subst aC
   rw[if_pos rfl]
   simp[(List.getElem?_eq_some_iff.1 av).1,(List.getElem?_eq_some_iff.1 av).2]
  .rw[if_neg aC]
 rw[this];exact h
theorem SJ{dh:List MapEntry}(h:(dh.map (·.key)).Nodup){q i:Nat}{ee aJ:MapEntry}(av:dh[q]? =some ee)(aC:dh[i]? =some aJ)(ah:aJ.key=ee.key):i=q:=by
 have dE:=(List.getElem?_eq_some_iff.1 aC).1
 have dC:=(List.getElem?_eq_some_iff.1 av).1
 have aD:(dh.map (·.key))[i]'(by simpa using dE)=(dh.map (·.key))[q]'(by simpa using dC):=by
  simp only[List.getElem_map]
  rw[(List.getElem?_eq_some_iff.1 aC).2,(List.getElem?_eq_some_iff.1 av).2,ah]
 exact x0 h _ _ aD
theorem l6.set(h:l6 φ es dh){v:V}{v':Value}(hv:cu φ v v'){q:Nat}{ee:MapEntry}(av:dh[q]? =some ee)(ah:ee.key= .int j n){u:V}(aV:kG (.int j n) es=some u)(b:Nat):
 l6 φ (nR (.int j n) v es) (dh.set q {key:=.int j n,val:=v',born:=b}):=by
 have ap:=(List.getElem?_eq_some_iff.1 av).1
 have qT:=Lv (j:=j) (n:=n) v (es:=es)
 rw[aV]at qT
 simp at qT
 refine⟨?_,?_,?_,?_,?_,aDJ h.xZ av _ ah.symm⟩
 .have:=congrArg List.length qT
  simp at this
  simp[this,h.len]
 .intro e he
  rcases(wq v h.nodup e).1 he with rfl|⟨he,bp⟩
  .exact⟨_,List.mem_iff_getElem?.2 ⟨q,by rw[List.getElem?_set,if_pos rfl,if_pos ap]⟩,.int _ _,hv⟩
  .obtain⟨aJ,oC,a,c⟩:=h.ir e he
   obtain⟨i,aC⟩:=List.getElem?_of_mem oC
   refine⟨aJ,List.mem_iff_getElem?.2 ⟨i,?_⟩,a,c⟩
   rw[List.getElem?_set]
   by_cases A3:q=i
   .subst A3
    rw[av]at aC;simp at aC;subst aC
    rw[ah]at a
    obtain⟨a9,n',hint⟩:=h.ints e he
    rw[hint]at a
    have:=a.jD
    simp at this
    exact absurd (by rw[hint,this.1,this.2]) bp
   .rw[if_neg A3];exact aC
 .intro aJ oC
  obtain⟨i,aC⟩:=List.getElem?_of_mem oC
  rw[List.getElem?_set]at aC
  by_cases A3:q=i
  .subst A3
   rw[if_pos rfl,if_pos ap]at aC
   simp at aC;subst aC
   exact⟨(.int j n,v),(wq v h.nodup _).2 (.inl rfl),.int _ _,hv⟩
  .rw[if_neg A3]at aC
   obtain⟨e,he,a,c⟩:=h.of aJ (List.mem_of_getElem? aC)
   refine⟨e,(wq v h.nodup _).2 (.inr ⟨he,fun bp=>?_⟩),a,c⟩
   rw[bp]at a
   have:=a.jD
   exact A3 (SJ h.xZ av aC (by rw[this,ah])).symm
 .intro e he
  rcases(wq v h.nodup e).1 he with rfl|⟨he,_⟩
  .exact⟨j,n,rfl⟩
  .exact h.ints e he
 .rw[qT];exact h.nodup
theorem l6.push(h:l6 φ es dh){v:V}{v':Value}(hv:cu φ v v')(dy:∀ee∈dh,ee.key≠ .int j n)(aV:kG (.int j n) es=none)(b:Nat):
 l6 φ (nR (.int j n) v es) (dh++[{key:=.int j n,val:=v',born:=b}]):=by
 have qT:=Lv (j:=j) (n:=n) v (es:=es)
 rw[aV]at qT
 simp at qT
 have nc:=F1 aV
 refine⟨?_,?_,?_,?_,?_,?_⟩
 .have:=congrArg List.length qT
  simp at this
  simp[this,h.len]
 .intro e he
  rcases(wq v h.nodup e).1 he with rfl|⟨he,bp⟩
  .exact⟨{key:=.int j n,val:=v',born:=b},aM,.int _ _,hv⟩
  .obtain⟨aJ,oC,a,c⟩:=h.ir e he
   exact⟨aJ,by simp[oC],a,c⟩
 .intro aJ oC
  rcases List.mem_append.1 oC with oC|oC
  .obtain⟨e,he,a,c⟩:=h.of aJ oC
   exact⟨e,(wq v h.nodup _).2 (.inr ⟨he,nc e he⟩),a,c⟩
  .simp at oC;subst oC
   exact⟨(.int j n,v),(wq v h.nodup _).2 (.inl rfl),.int _ _,hv⟩
 .intro e he
  rcases(wq v h.nodup e).1 he with rfl|⟨he,_⟩
  .exact⟨j,n,rfl⟩
  .exact h.ints e he
 .rw[qT,List.nodup_append]
  refine⟨h.nodup,aM,?_⟩
  intro a a3 b ad
  simp at ad;subst ad
  obtain⟨e,he,rfl⟩:=List.mem_map.1 a3
  exact nc e he
 .rw[List.map_append,List.nodup_append]
  refine⟨h.xZ,aM,?_⟩
  intro a a3 b ad
  simp at ad;subst ad
  obtain⟨e,he,rfl⟩:=List.mem_map.1 a3
  exact dy e he
theorem l6.erase(h:l6 φ es dh){q:Nat}{ee:MapEntry}(av:dh[q]? =some ee)(ah:ee.key= .int j n){u:V}(aV:kG (.int j n) es=some u):
 l6 φ (mE (.int j n) es) (dh.eraseIdx q):=by
 have ap:=(List.getElem?_eq_some_iff.1 av).1
 have aA:=LG (j:=j) (n:=n) (es:=es)
 rw[aV]at aA
 simp at aA
 have qc:(dh.eraseIdx q).Sublist dh:=List.eraseIdx_sublist _ _
 have mem:∀aJ,aJ∈dh.eraseIdx q↔(aJ∈dh/\aJ.key≠ .int j n):=by
  intro aJ
  rw[List.mem_eraseIdx_iff_getElem?]
  constructor
  .rintro⟨i,bp,aC⟩
   exact⟨List.mem_of_getElem? aC,fun ay=>bp (SJ h.xZ av aC (by rw[ay,ah]))⟩
  .rintro⟨he,bp⟩
   obtain⟨i,aC⟩:=List.getElem?_of_mem he
   refine⟨i,?_,aC⟩
   rintro rfl
   rw[av]at aC;simp at aC;subst aC
   exact bp ah
 refine⟨?_,?_,?_,?_,?_,?_⟩
 .rw[aA,List.length_eraseIdx,if_pos ap,h.len]
 .intro e he
  obtain⟨he,bp⟩:=(D3 h.nodup e).1 he
  obtain⟨aJ,oC,a,c⟩:=h.ir e he
  refine⟨aJ,(mem aJ).2 ⟨oC,fun ay=>?_⟩,a,c⟩
  obtain⟨a9,n',hint⟩:=h.ints e he
  rw[hint,ay]at a
  have:=a.jD
  simp at this
  exact bp (by rw[hint,this.1,this.2])
 .intro aJ oC
  obtain⟨oC,bp⟩:=(mem aJ).1 oC
  obtain⟨e,he,a,c⟩:=h.of aJ oC
  refine⟨e,(D3 h.nodup e).2 ⟨he,fun ay=>?_⟩,a,c⟩
  rw[ay]at a
  exact bp a.jD
 .intro e he
  exact h.ints e ((D3 h.nodup e).1 he).1
 .exact h.nodup.sublist (Ns.map _)
 .exact h.xZ.sublist (qc.map _)
theorem l6.none(h:l6 φ es dh)(aV:kG (.int j n) es=none):l6 φ (mE (.int j n) es) dh:=by
 have nc:=F1 aV
 have aA:=LG (j:=j) (n:=n) (es:=es)
 rw[aV]at aA
 simp at aA
 have mem:∀e,e∈mE (.int j n) es↔e∈es:=fun e=>by
  rw[D3 h.nodup]
  exact⟨fun h=>h.1,fun h=>⟨h,nc e h⟩⟩
 refine⟨by rw[aA,h.len],fun e he=>h.ir e ((mem e).1 he),fun e he=>?_,fun e he=>h.ints e ((mem e).1 he),h.nodup.sublist (Ns.map _),h.xZ⟩
 obtain⟨aJ,U,a⟩:=h.of e he
 exact⟨aJ,(mem aJ).2 U,a⟩
end
end
