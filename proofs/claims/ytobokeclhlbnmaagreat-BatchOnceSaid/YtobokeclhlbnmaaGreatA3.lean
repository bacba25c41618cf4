/- Part of the proof of BatchOnce, for every input. -/
import Derived.Test.YtobokeclhlbnmaaGreatA2
set_option linter.all false
namespace Go.Abs
section
def GU(P:Program)(t:TypeId):Bool:=match P.underlying t with|some (.pointer e)=>(match jQ P e with|some (_+1)=>true|_=>false)|_=>false
def tu(P:Program)(t:TypeId):Bool:=match P.underlying t with|some (.int _)=>true|_=>false
def SB:Operand->Bool
 | .const _=>true
 |_=>false
def gZ(P:Program)(aQ:List Nat):Go.Op->Option X
 | .load t a=>match jQ P t,se P t with
   |some n,some g=>(eS aQ a).map (.load n g)
   |_,_=>none
 | .store t a v=>match jQ P t with
   |some n=>kX aQ a v (.store n)
   |none=>none
 | .binOp op t x y _=>if(op= .eql\/op= .neq)/\GU P t=true then kX aQ x y (.yN (decide (op= .neq)))else none
 | .slice t x fa aC none=>match P.underlying t,oy aQ fa,oy aQ aC with
   |some (.array m e),some fa,some aC=>match jQ P e with
    |some n=>(eS aQ x).map fun x=>.EZ m n x fa aC
    |none=>none
   |_,_,_=>none
 | .lookup t m k ok=>match P.underlying t with
   |some (.map j5 e)=>match zeroOf P e with
    |some z=>if tu P j5=true then kX aQ m k (.lookup z ok)else none
    |none=>none
   |_=>none
 | .mapUpdate t m k v| .insert t m k v=>match P.underlying t with
   |some (.map j5 _)=>if tu P j5=true then(match eS aQ m with|some m=>kX aQ k v (.update m)|none=>none)else none
   |_=>none
 | .call ⟨.builtin .delete,args,bM⟩=>match args.toList,bM[0]? with
   |[m,k],some t=>match P.underlying t with
    |some (.map j5 _)=>if tu P j5=true then kX aQ m k .delete else none
    |_=>none
   |_,_=>none
 | .call ⟨.builtin .len,args,bM⟩=>match args.toList,bM[0]? with
   |[m],some t=>match P.underlying t with
    |some (.map _ _)=>(eS aQ m).map .wm
    |_=>none
   |_,_=>none
 | .call ⟨.builtin .append,args,bM⟩=>match args.toList,bM[0]?,bM[1]? with
   |[s,x],some t,some t2=>match P.underlying t,P.underlying t2 with
    |some (.slice e),some (.slice _)=>match P.info? e with
     |some i=>match i.zero with
      |some r9=>if r9.cells.size=i.size then kX aQ s x (.append i.size i.bytes)else none
      |none=>none
     |none=>none
    |_,_=>none
   |_,_,_=>none
 | .call ⟨.builtin .copy,args,bM⟩=>match args.toList,bM[0]? with
   |[d,s],some t=>match P.underlying t with
    |some (.slice e)=>match jQ P e with
     |some n=>kX aQ d s (.copy n)
     |none=>none
    |_=>none
   |_,_=>none
 | .call ⟨.builtin .clear,args,bM⟩=>match args.toList,bM[0]? with
   |[x],some t=>match P.underlying t with
    |some (.slice e)=>match zeroOf P e with
     |some z=>(eS aQ x).map (.vt z.cells)
     |none=>none
    |_=>none
   |_,_=>none
 | .call ⟨.value f,args,_⟩=>match AI aQ args with
   |some l=>(match f with
    | .func f=>some (.call f l)
    |f=>(eS aQ f).map fun f=>.pr f l)
   |none=>none
 | .call ⟨.invoke r name,args,_⟩=>match AI aQ args with
   |some l=>(eS aQ r).map fun r=>.invoke name r l
   |none=>none
 | .panic x=>(eS aQ x).map .panic
 |_=>none
def avD(P:Program):Go.Op->Bool
 | .binOp _ t x y _=>GU P t&& !SB x&& !SB y
 |_=>false
def Jt(P:Program)(aQ:List Nat)(op:Go.Op):Option X:=
 if avD P op=true then gZ P aQ op else
 match m4 P aQ op with
 |some x=>some (.l x)
 |none=>match CC P aQ op with
  |some x=>some (.a x)
  |none=>gZ P aQ op
def aue(P:Program)(ρ':Operand->Value)(o:Oper)(w:World)(v':Value)(w':World):Prop:=
 (execOp ρ' o).run P w= .ok (.value v') w'\/((execOp ρ' o).run P w= .ok .skip w'/\v'=Go.undef)
section
variable{P:Program}{aQ:List Nat}{φ:F}{ρ:aG->V}{ρ':Operand->Value}{σ:H}{w:World}
theorem HQ{j5:TypeId}(h:tu P j5=true)(b:Bool)(k:Value)(w:World):(Instr.checkKey b 10000 j5 k).run P w= .ok () w:=by
 unfold tu at h
 split at h
 .rename_i eX hu
  have:∀d,(Instr.checkKey b (d+1) j5 k).run P w= .ok () w:=fun d=>by
   simp only[Instr.checkKey,Sem.run_bind,run_underlying hu,Result.andThen_ok]
   cases k<;>rfl
  exact this 9999
 .simp at h
theorem F0{k:V}{es:List (V×V)}{r:Option V}(h:kF k es=some r):∃j n,k= .int j n/\es.all (fun e=>(l1 (.int j n) e.1).isSome)=true/\kG (.int j n) es=r:=by
 unfold kF at h
 split at h
 .rename_i j n
  split at h
  .rename_i lQ
   simp at h
   exact⟨j,n,rfl,lQ,h⟩
  .simp at h
 .simp at h
theorem run_findKey{j5:TypeId}(h:tu P j5=true){es:List (V×V)}{dh:List MapEntry}(ak:l6 φ es dh){j:IntKind}{n:Int}(ah:es.all (fun e=>(l1 (.int j n) e.1).isSome)=true)(w:World):
 match kG (.int j n) es with
 |some v=>∃q ee,(Instr.findKey j5 (.int j n) dh).run P w= .ok (some (q,ee.val)) w/\dh[q]? =some ee/\ee.key= .int j n/\cu φ v ee.val
 |none=>(Instr.findKey j5 (.int j n) dh).run P w= .ok none w/\∀ee∈dh,ee.key≠ .int j n:=by
 unfold tu at h
 split at h
 .rename_i eX hu
  have:=ak.find ah eX
  split at this
  .rename_i v hv
   obtain⟨q,ee,a,b,c,d⟩:=this
   rw[hv]
   exact⟨q,ee,by simp[Instr.findKey,run_underlying hu,a],b,c,d⟩
  .rename_i hv
   obtain⟨a,b⟩:=this
   rw[hv]
   exact⟨by simp[Instr.findKey,run_underlying hu,a],b⟩
 .simp at h
theorem Rel.map(h:Rel φ σ w){r:Nat}{hW:Value}(hm:cu φ (.map r) hW){ro:Bool}{es:List (V×V)}(ad:σ.get r=some (.map ro es)):
 ∃p dh fg,φ r=some p/\hW= .map (some p.b4)/\w.heap[p.b4]? =some (.map dh fg)/\l6 φ es dh.toList/\(ro=false->Go.MapKept.Stamped dh fg):=by
 obtain⟨p,aB,rfl⟩:=hm.Ti
 obtain⟨ql,eV,_,dh,fg,J,U⟩:=h.kc r _ ad
 rw[aB]at eV;simp at eV;subst eV
 exact⟨p,dh,fg,aB,rfl,J,U⟩
theorem run_getObj_map{k:Nat}{es:Array MapEntry}{fg:Nat}(h:w.heap[k]? =some (.map es fg)):(getObj k).run P w= .ok (.map es fg) w:=by
 simp[getObj,Sem.run,h]
theorem run_setObj_map{k:Nat}{es:Array MapEntry}{fg:Nat}(h:w.heap[k]? =some (.map es fg))(o:Obj):(setObj k o).run P w= .ok () {w with heap:=w.heap.setIfInBounds k o}:=by
 simp[setObj,Sem.run,h]
theorem aG_(j:IntKind)(n:Int):Instr.sameBits 10000 (.int j n) (.int j n)=true:=by simp[Instr.sameBits]
theorem M_(h:Rel φ σ w){z n:Nat}{b o len cap:Nat}{lg:Value}(aj:cu φ (.slice b o len cap z) lg)(az:n<=len){l:List V}(aA:σ.l2 b o (n*z)=some l):
 ∃l',(∀w':World,w'.heap=w.heap->(Builtin.firstCells z n lg).run P w'= .ok ⟨l'⟩ w')/\eD φ l l':=by
 obtain⟨hlen,p,aB,hle,l',p',af⟩:=h.l2 aA
 rcases aj.pd with⟨iC,gG,gQ,_,_,_,rfl⟩|⟨rfl,rfl,a,rfl⟩
 .rw[aB]at gQ;simp at gQ;subst gQ
  refine⟨l',fun w' hw=>?_,p'⟩
  have:=run_loadCells_list (P:=P) (w:=w') ⟨p.b4,p.off+o,none⟩ l' (fun j v ax=>by rw[add_eq];exact((af j v ax).congr (by rw[hw])).cell)
  rw[<-p'.length,hlen]at this
  simp[Builtin.firstCells,this]
 .have vZ:n=0:=I
  subst vZ
  simp at hlen
  subst hlen
  exact⟨[],fun w' _=>by simp[Builtin.firstCells,loadCells,loadCellsFrom],.nil⟩
theorem aDG{uV cap bytes:Nat}(J:cap<uV)(U:uV<=1048576)(aq:bytes<=1024):¬(Builtin.nextslicecap uV cap*bytes>2 ^ 48):=by
 have ad:Builtin.nextslicecap uV cap<=268435456:=by
  unfold Builtin.nextslicecap
  split
  .omega
  .split
   .omega
   .simp only[Builtin.growBy]
    (repeat' split)<;>omega
 have:Builtin.nextslicecap uV cap*bytes<=268435456*1024:=Nat.mul_le_mul ad aq
 have e:(2:Nat) ^ 48=281474976710656:=by decide
 rw[e]
 omega
end
end
section
section
variable{P:Program}{aQ:List Nat}{φ:F}{ρ:aG->V}{ρ':Operand->Value}{σ:H}{w:World}
theorem Pp{α:Type}{a:Array α}{x:α}(h:a.toList=[x]):a= #[x]:=by apply Array.toList_inj.1;simpa using h
theorem I8{α:Type}{a:Array α}{x y:α}(h:a.toList=[x,y]):a= #[x,y]:=by apply Array.toList_inj.1;simpa using h
def rn(P:Program)(φ:F)(σ:H)(w:World)(ρ':Operand->Value)(o:Oper)(v:V)(σ':H):Prop:=
 ∃v' w' cz,aue P ρ' o w v' w'/\cM φ σ w cz σ' w'/\cu cz v v'
theorem azB(h:Rel φ σ w)(he:Env φ aQ ρ ρ'){o:Oper}{t:TypeId}{a:Operand}(au:o.op= .load t a){n:Nat}{g:Bool}(az:jQ P t=some n)(aw:se P t=some g){cR:aG}(a3:eS aQ a=some cR)
 {v:V} (aA:oh σ n g (ρ cR)=some v):rn P φ σ w ρ' o v σ:=by
 obtain⟨v',p,e,ak,hv⟩:=Ha h az aw (he _ _ a3) aA
 exact⟨v',w,φ,.inl (by simp[execOp,au,e,Instr.loadAt,Instr.sureAddr,ak]),cM.refl h,hv⟩
theorem azF(h:Rel φ σ w)(he:Env φ aQ ρ ρ'){o:Oper}{t:TypeId}{a x:Operand}(au:o.op= .store t a x){n:Nat}(az:jQ P t=some n){cR eB:aG}(a3:eS aQ a=some cR)(aj:eS aQ x=some eB)
 {b off:Nat} (aB:ρ cR= .ptr b off) (hlen:(ρ eB).cells.length=n) {σ':H} (aa:σ.pe b off (ρ eB).cells=some σ'):rn P φ σ w ρ' o .undef σ':=by
 have iz:=he _ _ a3
 rw[aB]at iz
 have ah:(ρ eB).known=true:=by
  unfold H.pe at aa
  split at aa
  .split at aa
   .rename_i af;exact V.awA af.2
   .simp at aa
  .simp at aa
 have h9:=(he _ _ aj).cells ah
 obtain⟨p,gQ,fC,fJ⟩:=cM.store h aa h9
 obtain⟨ql,eV,e⟩:=iz.x8
 rw[gQ]at eV;simp at eV;subst eV
 have dC:(ρ' x).cells.size=n:=by
  have:=h9.length
  simp at this
  rw[<-this,hlen]
 refine⟨Go.undef,_,φ,.inr ⟨?_,rfl⟩,fC,.undef⟩
 have:=fJ P
 simp only[execOp,au]
 simp[e,Instr.storeAt,Instr.sureAddr,storeVar,mX az,dC,this]
theorem azz(h:Rel φ σ w)(he:Env φ aQ ρ ρ'){o:Oper}{op:BinOp}{t wT:TypeId}{x y:Operand}(au:o.op= .binOp op t x y wT)(mf:op= .eql\/op= .neq)(bg:GU P t=true){eB fX:aG}(aj:eS aQ x=some eB)(ai:eS aQ y=some fX)
 {r:Bool} (ak:ptrEq σ (ρ eB) (ρ fX)=some r):rn P φ σ w ρ' o (.bool (if decide (op= .neq)then !r else r)) σ:=by
 unfold GU at bg
 split at bg
 .rename_i e hu
  split at bg
  .rename_i n az
   have ah:Cb P t .ptr:=⟨e,n,hu,az⟩
   have h9:=he _ _ aj
   have zt:=he _ _ ai
   have fin:(eqGuard op t x y (ρ' x) (ρ' y)).run P w= .ok () w/\(binOp op t (ρ' x) (ρ' y)).run P w= .ok (.bool (if decide (op= .neq)then !r else r)) w:=by
    unfold ptrEq at ak
    split at ak
    .rename_i b g5 b2 hY aD aJ
     split at ak
     .rename_i ad
      subst ad
      refine JG mf x y ah (fun h=>by cases h) h9 zt (r:=r) ?_ w
      rw[aD,aJ]
      simpa[sl]using ak
     .rename_i ad
      rw[aD]at h9;rw[aJ]at zt
      obtain⟨p,aB,f1⟩:=h9.x8
      obtain⟨iC,gQ,f2⟩:=zt.x8
      split at ak
      .rename_i iA c1 pC c2 bY ba
       simp at ak;subst ak
       obtain⟨q,av,_,⟨awV,t1,aKp,iM,_,r8⟩,_⟩:=h.kc _ _ bY
       obtain⟨cO,sv,_,⟨CD,t2,aKq,jj,_,ny⟩,_⟩:=h.kc _ _ ba
       have r8:=r8 rfl
       have ny:=ny rfl
       subst r8 ny
       rw[aB]at av;simp at av;subst av
       rw[gQ]at sv;simp at sv;subst sv
       have bp:¬p.b4=iC.b4:=fun fB=>ad (h.inj _ _ _ _ _ _ bY ba aB gQ fB)
       have axY:∀k,w.frozen? ⟨p.b4,k,none⟩=false:=fun k=>by simp[World.frozen?,iM]
       have axZ:∀k,w.frozen? ⟨iC.b4,k,none⟩=false:=fun k=>by simp[World.frozen?,jj]
       have aHB:w.shape? p.b4=some (t1,awV.size):=by simp[World.shape?,iM]
       have aHC:w.shape? iC.b4=some (t2,CD.size):=by simp[World.shape?,jj]
       have hh:=mX az w
       have Nh:(sameAddr ⟨p.b4,p.off+g5,none⟩ ⟨iC.b4,iC.off+hY,none⟩).run P w= .ok false w:=by
        simp[sameAddr,bp,axY,noView,viewAt,aHB,aHC,mayBeOne,stringish,axZ]
       have aV:∀d,(Op.equalIn (d+1) t (.pointer (some ⟨p.b4,p.off+g5,none⟩)) (.pointer (some ⟨iC.b4,iC.off+hY,none⟩))).run P w= .ok false w:=fun d=>by
        simp[Op.equalIn,run_underlying hu,hh,Nh]
       have q:(Op.equal t (.pointer (some ⟨p.b4,p.off+g5,none⟩)) (.pointer (some ⟨iC.b4,iC.off+hY,none⟩))).run P w= .ok false w:=aV 9999
       rw[f1,f2]
       refine⟨?_,?_⟩
       .rcases mf with rfl|rfl<;>simp[eqGuard]
       .rcases mf with rfl|rfl<;>(simp only[binOp];simp[q])
      .simp at ak
    .exact JG mf x y ah (fun h=>by cases h) h9 zt ak w
   exact⟨_,w,φ,.inl (by simp only[execOp,au];simp only[Sem.run_bind,fin.1,fin.2,Result.andThen_ok,Sem.run_pure]),cM.refl h,.bool _⟩
  .simp at bg
 .simp at bg
theorem azD(h:Rel φ σ w)(he:Env φ aQ ρ ρ'){o:Oper}{t e:TypeId}{x:Operand}{qZ m9:Option Operand}(au:o.op= .slice t x qZ m9 none){n z:Nat}(bg:P.underlying t=some (.array n e))(bB:jQ P e=some z)
 {eB:aG} {fa aC:Option aG} (aj:eS aQ x=some eB) (aA:oy aQ qZ=some fa) (bd:oy aQ m9=some aC) {v:V} {σ':H} {m:iV} (aa:step m σ ρ (.EZ n z eB fa aC)=some (.val v σ')):rn P φ σ w ρ' o v σ':=by
 simp only[step]at aa
 split at aa
 .rename_i b g5 aD
  split at aa
  .rename_i r iA c hv cF ad n3 el
   split at aa
   .rename_i af
    obtain⟨J,U,aq,aK⟩:=af
    simp at aa
    obtain⟨rfl,rfl⟩:=aa
    have iz:=he _ _ aj
    rw[aD]at iz
    obtain⟨p,aB,aJ⟩:=iz.x8
    obtain⟨q,av,hh,_,_⟩:=h.kc _ _ ad
    rw[aB]at av;simp at av;subst av
    have aO:=HR (P:=P) (isS:=false) (len:=n) (cap:=n) he aA bd el n3 J U w
    have bp:¬(n=cF):=I
    refine⟨.slice (some ⟨p.b4,p.off+g5+cF*z,none⟩) (hv-cF) (n-cF),w,φ,.inl ?_,cM.refl h,?_⟩
    .simp[execOp,au,Instr.sliceAt,run_underlying bg,Instr.sureAddr,aJ,aO,mX bB,bp,add_eq]
    .have:=cu.slice (φ:=φ) b (g5+cF*z) (hv-cF) (n-cF) z (n-cF) p aB I (Nat.le_refl _) (by
      have aD:(n-cF)*z=n*z-cF*z:=Nat.sub_mul _ _ _
      have aJ:cF*z<=n*z:=Nat.mul_le_mul_right _ I
      omega)
     rwa [show p.off+(g5+cF*z)=p.off+g5+cF*z from I]at this
   .simp at aa
  .simp at aa
 .simp at aa
theorem azC(h:Rel φ σ w)(he:Env φ aQ ρ ρ'){o:Oper}{t j5 e:TypeId}{x k:Operand}{ok:Bool}(au:o.op= .lookup t x k ok)(bg:P.underlying t=some (.map j5 e)){z:V}(bB:zeroOf P e=some z)(ah:tu P j5=true)
 {eB iM:aG} (aj:eS aQ x=some eB) (Dw:eS aQ k=some iM) {v:V} {σ':H} {m:iV} (aa:step m σ ρ (.lookup z ok eB iM)=some (.val v σ')):rn P φ σ w ρ' o v σ':=by
 have h9:=he _ _ aj
 have nJ:=he _ _ Dw
 obtain⟨z',k6,oe⟩:=Ex bB φ w
 simp only[step]at aa
 split at aa
 .rename_i aD
  rw[aD]at h9
  have aJ:=h9.Ts
  have kp:=HQ ah true (ρ' k) w
  have bf:(Instr.findKey j5 (ρ' k) []).run P w= .ok none w:=by
   unfold tu at ah
   split at ah
   .rename_i eX hu
    simp[Instr.findKey,run_underlying hu,Instr.findNow]
   .simp at ah
  simp at aa
  obtain⟨rfl,rfl⟩:=aa
  cases ok
  .exact⟨z',w,φ,.inl (by simp[execOp,au,Instr.lookup,run_underlying bg,aJ,kp,bf,k6]),cM.refl h,oe⟩
  .exact⟨.tuple #[z',.bool false],w,φ,.inl (by simp[execOp,au,Instr.lookup,run_underlying bg,aJ,kp,bf,k6]),cM.refl h,.bN _ _ (.cons _ _ _ _ oe (.cons _ _ _ _ (.bool _) .nil))⟩
 .rename_i r aD
  rw[aD]at h9
  split at aa
  .rename_i ro es ad
   obtain⟨p,dh,fg,aB,aJ,J,U,fs⟩:=h.map h9 ad
   have aw:=run_getObj_map (P:=P) J
   have kp:=HQ ah dh.isEmpty (ρ' k) w
   split at aa
   .rename_i v2 aV
    obtain⟨j,n,e9,lQ,g9⟩:=F0 aV
    rw[e9]at nJ
    have pW:=nJ.jD
    rw[pW]at kp
    have p6:=run_findKey ah U lQ w
    rw[g9]at p6
    obtain⟨q,ee,cR,b7,fF,gx⟩:=p6
    simp at aa
    obtain⟨rfl,rfl⟩:=aa
    cases ok
    .exact⟨ee.val,w,φ,.inl (by simp[execOp,au,Instr.lookup,run_underlying bg,aJ,aw,pW,kp,cR]),cM.refl h,gx⟩
    .exact⟨.tuple #[ee.val,.bool true],w,φ,.inl (by simp[execOp,au,Instr.lookup,run_underlying bg,aJ,aw,pW,kp,cR]),cM.refl h,.bN _ _ (.cons _ _ _ _ gx (.cons _ _ _ _ (.bool _) .nil))⟩
   .rename_i aV
    obtain⟨j,n,e9,lQ,g9⟩:=F0 aV
    rw[e9]at nJ
    have pW:=nJ.jD
    rw[pW]at kp
    have p6:=run_findKey ah U lQ w
    rw[g9]at p6
    obtain⟨cR,_⟩:=p6
    simp at aa
    obtain⟨rfl,rfl⟩:=aa
    cases ok
    .exact⟨z',w,φ,.inl (by simp[execOp,au,Instr.lookup,run_underlying bg,aJ,aw,pW,kp,cR,k6]),cM.refl h,oe⟩
    .exact⟨.tuple #[z',.bool false],w,φ,.inl (by simp[execOp,au,Instr.lookup,run_underlying bg,aJ,aw,pW,kp,cR,k6]),cM.refl h,.bN _ _ (.cons _ _ _ _ oe (.cons _ _ _ _ (.bool _) .nil))⟩
   .simp at aa
  .simp at aa
 .simp at aa
theorem Ry(h:Rel φ σ w)(he:Env φ aQ ρ ρ'){o:Oper}{t j5 e:TypeId}{x k y:Operand}(au:o.op= .mapUpdate t x k y\/o.op= .insert t x k y)(bg:P.underlying t=some (.map j5 e))(ah:tu P j5=true)
 {eB iM fX:aG} (aj:eS aQ x=some eB) (Dw:eS aQ k=some iM) (ai:eS aQ y=some fX) {v:V} {σ':H} {m:iV} (aa:step m σ ρ (.update eB iM fX)=some (.val v σ')):rn P φ σ w ρ' o v σ':=by
 have h9:=he _ _ aj
 have nJ:=he _ _ Dw
 have zt:=he _ _ ai
 have hex:(execOp ρ' o).run P w=(do Instr.mapUpdate t (ρ' x) (ρ' k) (ρ' y);pure .skip:Sem Next).run P w:=by
  rcases au with au|au<;>simp[execOp,au]
 simp only[step]at aa
 split at aa
 .rename_i r aD
  rw[aD]at h9
  split at aa
  .rename_i es ad
   obtain⟨p,dh,fg,aB,aJ,J,U,fs⟩:=h.map h9 ad
   have aw:=run_getObj_map (P:=P) J
   have wg:=fun o=>run_setObj_map (P:=P) J o
   have kp:=HQ ah false (ρ' k) w
   split at aa
   .rename_i hl aV
    simp at aa
    obtain⟨rfl,rfl⟩:=aa
    obtain⟨j,n,e9,lQ,g9⟩:=F0 aV
    rw[e9]at nJ |-
    have pW:=nJ.jD
    rw[pW]at kp
    have p6:=run_findKey ah U lQ w
    cases hl with
    |some v2=>
     rw[g9]at p6
     obtain⟨q,ee,cR,b7,fF,gx⟩:=p6
     have az3:∀w,(Instr.keyThatStays ee.key (.int j n)).run P w= .ok (.int j n) w:=fun w=>by rw[fF];simp[Instr.keyThatStays,aG_]
     have av:dh[q]? =some ee:=by simpa using b7
     have j0:(dh.modify q fun e=>{e with key:=.int j n,val:=ρ' y}).toList=dh.toList.set q {key:=.int j n,val:=ρ' y,born:=ee.born}:=by
      rw[Array.toList_modify]
      apply List.ext_getElem?
      intro i
      rw[List.getElem?_modify,List.getElem?_set]
      by_cases aC:q=i
      .subst aC
       rw[if_pos rfl,b7]
       simp
       have:=(List.getElem?_eq_some_iff.1 b7).1
       simpa using this
      .rw[if_neg aC]
       simp[aC]
     refine⟨Go.undef,_,φ,.inr ⟨?_,rfl⟩,cM.H2 (w':={w with heap:=w.heap.setIfInBounds p.b4 (.map (dh.modify q fun e=>{e with key:=.int j n,val:=ρ' y}) fg)}) h ad aB rfl rfl rfl (by rw[j0];exact U.set zt b7 fF g9 _) (Go.MapKept.stamped_modify (fs rfl) q _ (fun _ _=>rfl) (fun e _ he=>by rw[av]at he;simp only[Option.some.injEq]at he;subst he;exact fF.symm)),.undef⟩
     rw[hex]
     simp[Instr.mapUpdate,run_underlying bg,aJ,aw,pW,kp,cR,av,az3,wg]
    |none=>
     rw[g9]at p6
     obtain⟨cR,b7⟩:=p6
     refine⟨Go.undef,_,φ,.inr ⟨?_,rfl⟩,cM.H2 (w':={w with heap:=w.heap.setIfInBounds p.b4 (.map (dh.push {key:=.int j n,val:=ρ' y,born:=fg}) (fg+1))}) h ad aB rfl rfl rfl (by simp only[Array.toList_push];exact U.push zt b7 g9 _) (Go.MapKept.stamped_push (fs rfl) b7),.undef⟩
     rw[hex]
     simp[Instr.mapUpdate,run_underlying bg,aJ,aw,pW,kp,cR,wg]
   .simp at aa
  .simp at aa
 .simp at aa
theorem azy(h:Rel φ σ w)(he:Env φ aQ ρ ρ'){o:Oper}{t j5 e:TypeId}{x k:Operand}{bM:Array TypeId}(au:o.op= .call ⟨.builtin .delete, #[x,k],bM⟩)(fU:bM[0]? =some t)(bg:P.underlying t=some (.map j5 e))(ah:tu P j5=true)
 {eB iM:aG} (aj:eS aQ x=some eB) (Dw:eS aQ k=some iM) {v:V} {σ':H} {m:iV} (aa:step m σ ρ (.delete eB iM)=some (.val v σ')):rn P φ σ w ρ' o v σ':=by
 have h9:=he _ _ aj
 have nJ:=he _ _ Dw
 simp only[step]at aa
 split at aa
 .rename_i r aD
  rw[aD]at h9
  split at aa
  .rename_i es ad
   obtain⟨p,dh,fg,aB,aJ,J,U,fs⟩:=h.map h9 ad
   have aw:=run_getObj_map (P:=P) J
   have wg:=fun o=>run_setObj_map (P:=P) J o
   have kp:=HQ ah dh.isEmpty (ρ' k) w
   split at aa
   .rename_i hl aV
    simp at aa
    obtain⟨rfl,rfl⟩:=aa
    obtain⟨j,n,e9,lQ,g9⟩:=F0 aV
    rw[e9]at nJ |-
    have pW:=nJ.jD
    rw[pW]at kp
    have p6:=run_findKey ah U lQ w
    cases hl with
    |some v2=>
     rw[g9]at p6
     obtain⟨q,ee,cR,b7,fF,gx⟩:=p6
     have j0:(dh.eraseIdxIfInBounds q).toList=dh.toList.eraseIdx q:=aM
     refine⟨.tuple #[],_,φ,.inl ?_,cM.H2 (w':={w with heap:=w.heap.setIfInBounds p.b4 (.map (dh.eraseIdxIfInBounds q) fg)}) h ad aB rfl rfl rfl (by rw[j0];exact U.erase b7 fF g9) (Go.MapKept.stamped_erase (fs rfl) q),.bN _ _ .nil⟩
     simp[execOp,au,resolve,invoke,builtin,Builtin.delete_,fU,run_underlying bg,aJ,aw,pW,kp,cR,wg]
    |none=>
     rw[g9]at p6
     obtain⟨cR,b7⟩:=p6
     refine⟨.tuple #[],_,φ,.inl ?_,cM.H2 (w':={w with heap:=w.heap.setIfInBounds p.b4 (.map dh fg)}) h ad aB rfl rfl rfl (U.none g9) (fs rfl),.bN _ _ .nil⟩
     simp[execOp,au,resolve,invoke,builtin,Builtin.delete_,fU,run_underlying bg,aJ,aw,pW,kp,cR,wg]
   .simp at aa
  .simp at aa
 .simp at aa
theorem azA(h:Rel φ σ w)(he:Env φ aQ ρ ρ'){o:Oper}{t j5 e:TypeId}{x:Operand}{bM:Array TypeId}(au:o.op= .call ⟨.builtin .len, #[x],bM⟩)(fU:bM[0]? =some t)(bg:P.underlying t=some (.map j5 e))
 {eB:aG} (aj:eS aQ x=some eB) {v:V} {σ':H} {m:iV} (aa:step m σ ρ (.wm eB)=some (.val v σ')):rn P φ σ w ρ' o v σ':=by
 have h9:=he _ _ aj
 simp only[step]at aa
 split at aa
 .rename_i aD
  rw[aD]at h9
  simp at aa
  obtain⟨rfl,rfl⟩:=aa
  exact⟨.int .i64 0,w,φ,.inl (by simp[execOp,au,resolve,invoke,builtin,Builtin.len_,fU,run_underlying bg,h9.Ts,goInt]),cM.refl h,.int _ _⟩
 .rename_i r aD
  rw[aD]at h9
  split at aa
  .rename_i ro es ad
   obtain⟨p,dh,fg,aB,aJ,J,U,fs⟩:=h.map h9 ad
   have aw:=run_getObj_map (P:=P) J
   simp at aa
   obtain⟨rfl,rfl⟩:=aa
   have aA:=U.len
   simp at aA
   exact⟨.int .i64 dh.size,w,φ,.inl (by simp[execOp,au,resolve,invoke,builtin,Builtin.len_,fU,run_underlying bg,aJ,aw,goInt]),cM.refl h,by rw[aA];exact .int _ _⟩
  .simp at aa
 .simp at aa
end
end
section
section
variable{P:Program}{aQ:List Nat}{φ:F}{ρ:aG->V}{ρ':Operand->Value}{σ:H}{w:World}
theorem aeQ{b o len cap z:Nat}{lg:Value}(aj:cu φ (.slice b o len cap z) lg)(w:World):(Builtin.lenOf lg).run P w= .ok len w:=by
 rcases aj.pd with⟨p,gG,_,_,_,_,rfl⟩|⟨rfl,rfl,a,rfl⟩<;>simp[Builtin.lenOf]
theorem aF5(h:Rel φ σ w){z:Nat}{x:V}{lg:Value}(aj:cu φ x lg){n:Nat}{new:List V}
 (aa:tP σ z x=some (n,new)):
 (Builtin.lenOf lg).run P w= .ok n w/\∃mS,(∀w':World,w'.heap=w.heap->(Builtin.firstCells z n lg).run P w'= .ok ⟨mS⟩ w')/\eD φ new mS/\new.length=n*z:=by
 unfold tP at aa
 split at aa
 .simp at aa
  obtain⟨rfl,rfl⟩:=aa
  rw[aj.sQ]
  exact⟨by simp[Builtin.lenOf],[],fun w' _=>by simp[Builtin.firstCells],.nil,aM⟩
 .rename_i b o len cap z'
  split at aa
  .rename_i bB
   subst bB
   obtain⟨l,aA,e⟩:=eY aa
   simp at e
   obtain⟨rfl,rfl⟩:=e
   obtain⟨l',J,U⟩:=M_ (P:=P) h aj (Nat.le_refl _) aA
   exact⟨aeQ aj w,l',J,U,(h.l2 aA).1⟩
  .simp at aa
 .simp at aa
theorem aLJ(uV old:Nat)(e:TypeId)(w:World):∃c,uV<=c/\(choose (.appendCap uV old e)).run P w= .ok c {w with drawn:=w.drawn+1}:=
 ⟨(Question.appendCap uV old e).cut (w.tape w.drawn (.appendCap uV old e)),by simp[Question.cut],by simp[Question.forced]⟩
theorem aKb(a b c:List Value):((⟨a⟩:Array Value)++(⟨b⟩:Array Value)++(⟨c⟩:Array Value))=⟨(a++b)++c⟩:=by
 apply Array.toList_inj.1;simp
theorem M'{o:Oper}{t t2 e aJ:TypeId}{s x:Operand}{bM:Array TypeId}(au:o.op= .call ⟨.builtin .append, #[s,x],bM⟩)(fU:bM[0]? =some t)(qX:bM[1]? =some t2)
 (bg:P.underlying t=some (.slice e)) (j3:P.underlying t2=some (.slice aJ)) {i:TypeInfo} (aC:P.info? e=some i) {r9:Value} (bB:i.zero=some r9) (ts:r9.cells.size=i.size)
 {base:Option Addr} {len cap n:Nat} (es:ρ' s= .slice base len cap) (hlen:(Builtin.lenOf (ρ' x)).run P w= .ok n w) {old new:List Value}
 (hold:∀w':World,w'.heap=w.heap->(Builtin.firstCells i.size len (ρ' s)).run P w'= .ok ⟨old⟩ w') (nH:∀w':World,w'.heap=w.heap->(Builtin.firstCells i.size n (ρ' x)).run P w'= .ok ⟨new⟩ w')
 (dy:cap<len+n) (n9:len+n<=1048576) (bI:i.bytes<=1024):
 ∃(c:Nat) (rest:List Value),len+n<=c/\rest.length=(c- (len+n))*i.size/\
  (execOp ρ' o).run P w= .ok (.value (.slice (some ⟨w.heap.size,0,none⟩) (len+n) c)) {w with drawn:=w.drawn+1,heap:=w.heap.push (.cells ⟨(old++new)++rest⟩ e (0,0))}:=by
 have hh:∀w,(sizeOf e).run P w= .ok i.size w:=fun w=>by simp[sizeOf,typeInfo,aC]
 have GG:∀w,(typeInfo e).run P w= .ok i w:=fun w=>by simp[typeInfo,aC]
 have aBw:∀w,(zeroValue e).run P w= .ok r9 w:=fun w=>by simp[zeroValue,typeInfo,aC,bB]
 have v7:=aDG dy n9 bI
 have aw8:(2:Nat) ^ 48=281474976710656:=by decide
 rw[aw8]at v7
 have aAy:¬(len+n<=cap):=I
 have aAx:¬(281474976710656<Builtin.nextslicecap (len+n) cap*i.bytes):=I
 have Rj:¬((9223372036854775807:Int)< (len:Int)+(n:Int)):=I
 have azO:(Question.appendCap (len+n) cap e).forced=false:=rfl
 have Rs:len+n<=(Question.appendCap (len+n) cap e).cut (w.tape w.drawn (.appendCap (len+n) cap e)):=by simp[Question.cut]
 generalize af:(Question.appendCap (len+n) cap e).cut (w.tape w.drawn (.appendCap (len+n) cap e))=c at Rs
 have tm:=hold w.drew rfl
 have g4:=nH w.drew rfl
 rw[es]at tm
 refine⟨c,(Builtin.zeroCells r9.cells (c- (len+n))).toList,Rs,by simp[Builtin.zeroCells,ts],?_⟩
 have y4:(Builtin.append_ bM o.type #[ρ' s,ρ' x]).run P w= .ok (.slice (some ⟨w.heap.size,0,none⟩) (len+n) c) {w with drawn:=w.drawn+1,heap:=w.heap.push (.cells ⟨(old++new)++(Builtin.zeroCells r9.cells (c- (len+n))).toList⟩ e (0,0))}:=by
  have aw_:(⟨old⟩:Array Value)++((⟨new⟩:Array Value)++Builtin.zeroCells r9.cells (c- (len+n)))=⟨(old++new)++(Builtin.zeroCells r9.cells (c- (len+n))).toList⟩:=by
   apply Array.toList_inj.1;simp
  simp only[Builtin.append_,List.getElem?_toArray,List.getElem?_cons_zero,List.getElem?_cons_succ,fU,qX,es]
  simp[run_underlying bg,run_underlying j3,hh,hlen,aAy,GG,Rj,aAx,azO,af,tm,g4,aBw,newRow, -List.append_toArray]
  rw[aw_,List.append_assoc]
  rfl
 simp[execOp,au,resolve,invoke,builtin,y4]
theorem run_append_fits{o:Oper}{t t2 e aJ:TypeId}{s x:Operand}{bM:Array TypeId}(au:o.op= .call ⟨.builtin .append, #[s,x],bM⟩)(fU:bM[0]? =some t)(qX:bM[1]? =some t2)
 (bg:P.underlying t=some (.slice e)) (j3:P.underlying t2=some (.slice aJ)) {i:TypeInfo} (aC:P.info? e=some i)
 {base:Option Addr} {len cap n:Nat} (es:ρ' s= .slice base len cap) (hlen:(Builtin.lenOf (ρ' x)).run P w= .ok n w) {new:List Value}
 (nH:(Builtin.firstCells i.size n (ρ' x)).run P w= .ok ⟨new⟩ w) (wh:len+n<=cap) {w':World}
 (fs:∀a,base=some a->(storeCells (a.add (len*i.size)) new).run P w= .ok () w') (ad:base=none->w'=w):
 (execOp ρ' o).run P w= .ok (.value (.slice base (len+n) cap)) w':=by
 have hh:∀w,(sizeOf e).run P w= .ok i.size w:=fun w=>by simp[sizeOf,typeInfo,aC]
 have y4:(Builtin.append_ bM o.type #[ρ' s,ρ' x]).run P w= .ok (.slice base (len+n) cap) w':=by
  simp only[Builtin.append_,List.getElem?_toArray,List.getElem?_cons_zero,List.getElem?_cons_succ,fU,qX,es]
  cases base with
  |none=>
   have:=ad rfl
   subst this
   simp[run_underlying bg,run_underlying j3,hh,hlen,wh,nH]
  |some a=>
   have:=fs a rfl
   simp[run_underlying bg,run_underlying j3,hh,hlen,wh,nH,this]
 simp[execOp,au,resolve,invoke,builtin,y4]
theorem cM.extend(h:Rel φ σ w){b off k m:Nat}{c:T V}(ad:σ.get b=some (.cells false m c)){p:pQ}(aB:φ b=some p){old new:List V}(hold:σ.l2 b off k=some old)
 {mS:List Value} (az:eD φ new mS) (lQ:new.all V.cell=true) (o8:p.off+off+k+mS.length<=p.size):
 cM φ σ w (φ.put σ.next ⟨p.b4,p.off+off,p.size⟩) ((σ.kill b).new (nB (old++new))) (nr w p.b4 (p.off+off+k) mS)/\
 ∀P:Program,(storeCells ⟨p.b4,p.off+off+k,none⟩ mS).run P w= .ok () (nr w p.b4 (p.off+off+k) mS):=by
 obtain⟨ql,eV,hh,⟨al,t,eI,aD,aJ,hg⟩,_⟩:=h.kc b _ ad
 have hg:=hg rfl
 subst hg
 rw[aB]at eV;simp at eV;subst eV
 obtain⟨hlen,q,av,hle,Ma,A_,xL⟩:=h.l2 hold
 rw[aB]at av;simp at av;subst av
 have KT:=az.length
 have R7:=A_.length
 have Gi:p.off+off+k+mS.length<=al.size:=I
 obtain⟨⟨eT,cR,b7,fF⟩,oK,Nx,aAE,K0⟩:=Nr mS w p.b4 (p.off+off+k) al t aD Gi
 have DG:∀v∈mS,v.oneCell'=true:=by
  intro v' ga
  obtain⟨i,aC⟩:=List.getElem?_of_mem ga
  have ap:i<new.length:=by rw[KT];exact(List.getElem?_eq_some_iff.1 aC).1
  obtain⟨bj,e,r⟩:=az.get i new[i] (by simp[ap])
  rw[aC]at e;simp at e;subst e
  exact r.T2 ((List.all_eq_true.1 lQ) _ (List.getElem_mem ap))
 have nx:∀b B,σ.get b=some B->b≠σ.next:=fun b B eN=>by
  obtain⟨p,aB,_⟩:=h.kc b B eN
  have:=(h.kY b p aB).1
  omega
 have zc:φ.le (φ.put σ.next ⟨p.b4,p.off+off,p.size⟩):=by
  intro b p aB
  have:=(h.kY b p aB).1
  simp only[F.put]
  rw[if_neg I];exact aB
 have get:∀x B,((σ.kill b).new (nB (old++new))).get x=some B->(x=σ.next/\B=nB (old++new))\/(x≠σ.next/\x≠b/\σ.get x=some B):=by
  intro x B aj
  rw[H.pZ]at aj
  change(if σ.next=x then _ else _)=_ at aj
  by_cases sB:σ.next=x
  .rw[if_pos sB]at aj;simp at aj
   exact .inl ⟨sB.symm,aj.symm⟩
  .rw[if_neg sB,H.xr]at aj
   by_cases o9:b=x
   .rw[if_pos o9]at aj;simp at aj
   .rw[if_neg o9]at aj
    exact .inr ⟨fun e=>sB e.symm,fun e=>o9 e.symm,aj⟩
 have JL:∀x B q,σ.get x=some B->x≠b->φ x=some q->p.b4≠q.b4:=fun x B q aj o9 av fB=>o9 (h.inj _ _ _ _ _ _ ad aj aB av fB).symm
 refine⟨⟨⟨?_,?_,?_⟩,zc,?_,?_,by rw[Nx];exact Nat.le_refl _,aAE,K0,?_,?_,?_,?_⟩,fun P=>by simpa using Na (P:=P) mS w p.b4 (p.off+off+k) 0 al t aD (by simpa using Gi) DG⟩
 .intro x B aj
  rcases get x B aj with⟨rfl,rfl⟩|⟨sB,o9,aj⟩
  .refine⟨⟨p.b4,p.off+off,p.size⟩,by simp[F.put],by simp;omega,⟨eT,t,_,cR,by rw[b7,aJ],fun _=>rfl⟩,fun i aC=>?_⟩
   simp at aC
   have qP:kE (T.ofList .e 0 (old++new)) i=(old++new)[i]'(by simp;exact aC):=by
    simp[kE,T.uw,aC]
   rw[qP]
   by_cases xA:i<k
   .obtain⟨v',aW,tN⟩:=A_.get i old[i] aM
    obtain⟨CD,t2,_,f1,f2⟩:=xL i v' aW
    rw[aD]at f1;simp at f1;obtain⟨rfl,rfl,rfl⟩:=f1
    refine⟨v',⟨eT,t,_,cR,?_⟩,?_⟩
    .show eT[p.off+off+i]? =some v'
     rw[fF,if_neg I];exact f2
    .rw[List.getElem_append_left I];exact tN.mono zc
   .obtain⟨v',aW,tN⟩:=az.get (i-k) (new[i-k]'I) aM
    refine⟨v',⟨eT,t,_,cR,?_⟩,?_⟩
    .show eT[p.off+off+i]? =some v'
     rw[fF,if_pos I,show p.off+off+i- (p.off+off+k)=i-k from I];exact aW
    .rw[List.getElem_append_right I]
     simp only[hlen]
     exact tN.mono zc
  .obtain⟨q,av,ak⟩:=h.kc x B aj
   exact⟨q,zc _ _ av,ak.congr zc (oK _ (JL x B q aj o9 av))⟩
 .intro x B y C q r aj ai av ak fB
  simp only[F.put]at av ak
  rcases get x B aj with⟨rfl,rfl⟩|⟨sB,o9,aj⟩<;>rcases get y C ai with⟨rfl,rfl⟩|⟨Lm,Ll,ai⟩
  .rfl
  .rw[if_pos rfl]at av;rw[if_neg Lm]at ak
   simp at av;subst av
   exact absurd fB (JL y C r ai Ll ak)
  .rw[if_neg sB]at av;rw[if_pos rfl]at ak
   simp at ak;subst ak
   exact absurd fB.symm (JL x B q aj o9 av)
  .rw[if_neg sB]at av;rw[if_neg Lm]at ak
   exact h.inj _ _ _ _ _ _ aj ai av ak fB
 .intro x q av
  have aA1:∀r:pQ,qE w r->qE (nr w p.b4 (p.off+off+k) mS) r:=by
   intro r ak
   by_cases fB:p.b4=r.b4
   .rcases ak with⟨CD,t2,_,f1,f2⟩|⟨es,fg,f1⟩|⟨_,_,_,_,f1⟩
    .rw[<-fB,aD]at f1;simp at f1;obtain⟨rfl,rfl,rfl⟩:=f1
     exact .inl ⟨eT,t,_,by rw[<-fB];exact cR,by rw[b7,f2]⟩
    .rw[<-fB,aD]at f1;simp at f1
    .rw[<-fB,aD]at f1;simp at f1
   .exact ak.congr (oK _ fB)
  simp only[F.put]at av
  split at av
  .rename_i sB
   simp at av;subst av;subst sB
   exact⟨by simp[H.new,H.kill],.inl ⟨eT,t,_,cR,by rw[b7,aJ]⟩⟩
  .obtain⟨J,U⟩:=h.kY x q av
   exact⟨by simp[H.new,H.kill];omega,aA1 q U⟩
 .intro x aj aV
  exact oK x fun fB=>aV ⟨b,_,p,ad,rfl,aB,fB⟩
 .rintro x ⟨a,B,q,cy,ha,av,rfl⟩
  simp only[F.put]at av
  rcases get a B cy with⟨rfl,rfl⟩|⟨ay6,y3,cy⟩
  .rw[if_pos rfl]at av
   simp at av;subst av
   exact .inl ⟨b,_,p,ad,rfl,aB,rfl⟩
  .rw[if_neg ay6]at av
   exact .inl ⟨a,B,q,cy,ha,av,rfl⟩
 .simp[H.new,H.kill]
 .intro x aj ap
  simp only[F.put]
  rw[if_neg I];exact aj
 .intro x B cy ap
  rcases get x B cy with⟨rfl,rfl⟩|⟨_,_,cy⟩
  .omega
  .exact⟨B,cy,rfl⟩
 .intro x B cy hle
  rcases get x B cy with⟨rfl,rfl⟩|⟨_,_,cy⟩
  .rfl
  .exact(cM.refl h).fresh x B cy hle
theorem azv(h:Rel φ σ w)(he:Env φ aQ ρ ρ'){o:Oper}{t t2 e aJ:TypeId}{s x:Operand}{bM:Array TypeId}(au:o.op= .call ⟨.builtin .append, #[s,x],bM⟩)(fU:bM[0]? =some t)(qX:bM[1]? =some t2)
 (bg:P.underlying t=some (.slice e)) (j3:P.underlying t2=some (.slice aJ)) {i:TypeInfo} (aC:P.info? e=some i) {r9:Value} (bB:i.zero=some r9) (ts:r9.cells.size=i.size)
 {s1 eB:aG} (Lb:eS aQ s=some s1) (aj:eS aQ x=some eB) {v:V} {σ':H} (aa:ow σ i.size i.bytes (ρ s1) (ρ eB)=some (v,σ')):rn P φ σ w ρ' o v σ':=by
 have gC:=he _ _ Lb
 have h9:=he _ _ aj
 unfold ow at aa
 split at aa
 .simp at aa
 .rename_i n new K_
  obtain⟨hlen,mS,nH,v_,KT⟩:=aF5 (P:=P) h h9 K_
  have KU:=v_.length
  split at aa
  .rename_i aD
   rw[aD]at gC
   have es:=gC.sQ
   split at aa
   .rename_i vZ
    subst vZ
    simp at aa
    obtain⟨rfl,rfl⟩:=aa
    have:=run_append_fits (P:=P) (w:=w) (w':=w) au fU qX bg j3 aC es hlen (nH w rfl) (Nat.le_refl _) (fun a a3=>by simp at a3) (fun _=>rfl)
    exact⟨_,w,φ,.inl this,cM.refl h,.br⟩
   .rename_i vZ
    split at aa
    .rename_i af
     obtain⟨n9,bI⟩:=af
     simp at aa
     obtain⟨rfl,rfl⟩:=aa
     obtain⟨c,rest,hr,g2,fJ⟩:=M' (P:=P) (w:=w) (old:=[]) (new:=mS) au fU qX bg j3 aC bB ts es hlen (fun w' _=>by rw[es];simp[Builtin.firstCells]) nH I I bI
     refine⟨_,_,_,.inl fJ,cM.row h v_ e rest aM rfl rfl,?_⟩
     have:=cu.slice (φ:=φ.put σ.next ⟨w.heap.size,0,mS.length+rest.length⟩) σ.next 0 n n i.size c _ (by simp[F.put];rfl) (Nat.le_refl _) I (by
      simp
      have aD:(c- (0+n))*i.size=c*i.size- (0+n)*i.size:=Nat.sub_mul _ _ _
      have aJ:(0+n)*i.size<=c*i.size:=Nat.mul_le_mul_right _ hr
      simp at aD aJ g2
      omega)
     simpa using this
    .simp at aa
  .rename_i b off len cap z' aD
   split at aa
   .simp at aa
   .rename_i k6
    have k6:z'=i.size:=by simpa using k6
    subst k6
    rw[aD]at gC
    split at aa
    .rename_i vZ
     subst vZ
     simp at aa
     obtain⟨rfl,rfl⟩:=aa
     have xJ:mS=[]:=by
      have:mS.length=0:=by rw[<-KU,KT];simp
      exact List.eq_nil_of_length_eq_zero this
     subst xJ
     rcases gC.pd with⟨p,gG,aB,c1,c2,eu,es⟩|⟨rfl,rfl,a,es⟩
     .have:=run_append_fits (P:=P) (w:=w) (w':=w) au fU qX bg j3 aC es hlen (nH w rfl) I (fun a a3=>rfl) (fun _=>rfl)
      exact⟨_,w,φ,.inl this,cM.refl h,es▸gC⟩
     .have:=run_append_fits (P:=P) (w:=w) (w':=w) au fU qX bg j3 aC es hlen (nH w rfl) I (fun a a3=>rfl) (fun _=>rfl)
      exact⟨_,w,φ,.inl this,cM.refl h,es▸gC⟩
    .rename_i vZ
     split at aa
     .rename_i Gi
      obtain⟨oq,fs,bd⟩:=eY aa
      simp at bd
      obtain⟨rfl,rfl⟩:=bd
      rcases gC.pd with⟨p,gG,aB,c1,c2,eu,es⟩|⟨rfl,rfl,a,es⟩
      .obtain⟨iC,gQ,fC,fJ⟩:=cM.store h fs v_
       rw[aB]at gQ;simp at gQ;subst gQ
       have:=run_append_fits (P:=P) (w:=w) (w':=nr w p.b4 (p.off+(off+len*i.size)) mS) au fU qX bg j3 aC es hlen (nH w rfl) I (fun a a3=>by
        simp at a3;subst a3
        rw[add_eq,Nat.add_assoc]
        exact fJ P) (fun h=>by simp at h)
       exact⟨_,_,φ,.inl this,fC,.slice _ _ _ _ _ _ p aB I c2 eu⟩
      .omega
     .rename_i aK0
      split at aa
      .rename_i Ko
       obtain⟨n9,bI,lQ⟩:=Ko
       split at aa
       .rename_i m c old ad hold
        simp at aa
        obtain⟨rfl,rfl⟩:=aa
        obtain⟨Ma,R8,A_⟩:=M_ (P:=P) h gC (Nat.le_refl _) hold
        have aK3:=A_.length
        have R7:=(h.l2 hold).1
        rcases gC.pd with⟨p,gG,aB,c1,c2,eu,es⟩|⟨rfl,rfl,a,es⟩
        .by_cases o8:len+n<=gG
         ·
          have bP:(len+n)*i.size=len*i.size+n*i.size:=Nat.add_mul _ _ _
          have g0:(len+n)*i.size<=gG*i.size:=Nat.mul_le_mul_right _ o8
          obtain⟨fC,fJ⟩:=cM.extend h ad aB hold v_ lQ I
          have:=run_append_fits (P:=P) (w:=w) (w':=nr w p.b4 (p.off+off+len*i.size) mS) au fU qX bg j3 aC es hlen (nH w rfl) o8 (fun a a3=>by
           simp at a3;subst a3
           rw[add_eq]
           exact fJ P) (fun h=>by simp at h)
          refine⟨_,_,_,.inl this,fC,?_⟩
          have:=cu.slice (φ:=φ.put σ.next ⟨p.b4,p.off+off,p.size⟩) σ.next 0 (len+n) (len+n) i.size gG _ (by simp[F.put];rfl) (Nat.le_refl _) o8 (by simp;omega)
          simpa using this
         .obtain⟨c,rest,hr,g2,fJ⟩:=M' (P:=P) (w:=w) au fU qX bg j3 aC bB ts es hlen R8 nH I n9 bI
          have k:=cM.kill h b
          refine⟨_,_,_,.inl fJ,k.trans (cM.row k.rel (A_.append v_) e rest aM rfl rfl),?_⟩
          have:=cu.slice (φ:=φ.put σ.next ⟨w.heap.size,0,(Ma++mS).length+rest.length⟩) σ.next 0 (len+n) (len+n) i.size c _ (by simp[F.put];rfl) (Nat.le_refl _) I (by
           simp
           have aD:(c- (len+n))*i.size=c*i.size- (len+n)*i.size:=Nat.sub_mul _ _ _
           have aJ:(len+n)*i.size<=c*i.size:=Nat.mul_le_mul_right _ hr
           have bP:(len+n)*i.size=len*i.size+n*i.size:=Nat.add_mul _ _ _
           omega)
          change cu (φ.put σ.next _) _ _
          simpa using this
        .obtain⟨c,rest,hr,g2,fJ⟩:=M' (P:=P) (w:=w) au fU qX bg j3 aC bB ts es hlen R8 nH I n9 bI
         have k:=cM.kill h b
         refine⟨_,_,_,.inl fJ,k.trans (cM.row k.rel (A_.append v_) e rest aM rfl rfl),?_⟩
         have:=cu.slice (φ:=φ.put σ.next ⟨w.heap.size,0,(Ma++mS).length+rest.length⟩) σ.next 0 (0+n) (0+n) i.size c _ (by simp[F.put];rfl) (Nat.le_refl _) I (by
          simp
          have aD:(c- (0+n))*i.size=c*i.size- (0+n)*i.size:=Nat.sub_mul _ _ _
          have aJ:(0+n)*i.size<=c*i.size:=Nat.mul_le_mul_right _ hr
          have bP:(0+n)*i.size=n*i.size:=aM
          simp at R7
          omega)
         change cu (φ.put σ.next _) _ _
         simpa using this
       .simp at aa
      .simp at aa
  .simp at aa
end
end
section
section
variable{P:Program}{aQ:List Nat}{φ:F}{ρ:aG->V}{ρ':Operand->Value}{σ:H}{w:World}
theorem azx(h:Rel φ σ w)(he:Env φ aQ ρ ρ'){o:Oper}{t e:TypeId}{d s:Operand}{bM:Array TypeId}(au:o.op= .call ⟨.builtin .copy, #[d,s],bM⟩)(fU:bM[0]? =some t)
 (bg:P.underlying t=some (.slice e)) {z:Nat} (bB:jQ P e=some z) {d1 s1:aG} (aH:eS aQ d=some d1) (Lb:eS aQ s=some s1) {v:V} {σ':H} (aa:copyV σ z (ρ d1) (ρ s1)=some (v,σ')):rn P φ σ w ρ' o v σ':=by
 have mP:=he _ _ aH
 have gC:=he _ _ Lb
 have hh:=fun w=>mX (P:=P) bB w
 unfold copyV at aa
 split at aa
 .rename_i aD aJ
  rw[aD]at mP;rw[aJ]at gC
  simp at aa
  obtain⟨rfl,rfl⟩:=aa
  exact⟨.int .i64 0,w,φ,.inl (by simp[execOp,au,resolve,invoke,builtin,Builtin.copy_,fU,run_underlying bg,mP.sQ,gC.sQ,Builtin.lenOf,Builtin.firstCells,hh,goInt]),cM.refl h,.int _ _⟩
 .rename_i aD aJ
  rw[aD]at mP;rw[aJ]at gC
  simp at aa
  obtain⟨rfl,rfl⟩:=aa
  rcases gC.pd with⟨p,gG,aB,c1,c2,eu,es⟩|⟨rfl,rfl,a,es⟩
  .exact⟨.int .i64 0,w,φ,.inl (by simp[execOp,au,resolve,invoke,builtin,Builtin.copy_,fU,run_underlying bg,mP.sQ,es,Builtin.lenOf,Builtin.firstCells,loadCells,loadCellsFrom,hh,goInt]),cM.refl h,.int _ _⟩
  .exact⟨.int .i64 0,w,φ,.inl (by simp[execOp,au,resolve,invoke,builtin,Builtin.copy_,fU,run_underlying bg,mP.sQ,es,Builtin.lenOf,Builtin.firstCells,loadCells,loadCellsFrom,hh,goInt]),cM.refl h,.int _ _⟩
 .rename_i aD aJ
  rw[aD]at mP;rw[aJ]at gC
  simp at aa
  obtain⟨rfl,rfl⟩:=aa
  rcases mP.pd with⟨p,gG,aB,c1,c2,eu,es⟩|⟨rfl,rfl,a,es⟩
  .exact⟨.int .i64 0,w,φ,.inl (by simp[execOp,au,resolve,invoke,builtin,Builtin.copy_,fU,run_underlying bg,gC.sQ,es,Builtin.lenOf,Builtin.firstCells,storeCells,hh,goInt]),cM.refl h,.int _ _⟩
  .exact⟨.int .i64 0,w,φ,.inl (by simp[execOp,au,resolve,invoke,builtin,Builtin.copy_,fU,run_underlying bg,gC.sQ,es,Builtin.lenOf,Builtin.firstCells,storeCells,hh,goInt]),cM.refl h,.int _ _⟩
 .rename_i b off len cap r8 b2 aLC G6 aJ_ ny aD aJ
  rw[aD]at mP;rw[aJ]at gC
  split at aa
  .rename_i Su
   obtain⟨rfl,rfl⟩:=Su
   split at aa
   .rename_i al aA
    obtain⟨eT,aV,ak⟩:=M_ (P:=P) h gC (Nat.min_le_left _ _) aA
    have Gg:=aV w rfl
    clear aV
    have hlen:=aeQ (P:=P) gC w
    have hs:=(h.l2 aA).1
    have azj:=ak.length
    split at aa
    .rename_i o5
     simp at aa
     obtain⟨rfl,rfl⟩:=aa
     have xJ:eT=[]:=by
      apply List.eq_nil_of_length_eq_zero
      rw[<-azj,hs,o5];simp
     subst xJ
     rw[o5]at Gg
     have iI:Nat.min G6 len=0:=o5
     rcases mP.pd with⟨p,gG,aB,c1,c2,eu,es⟩|⟨rfl,rfl,a,es⟩
     .exact⟨.int .i64 0,w,φ,.inl (by simp[execOp,au,resolve,invoke,builtin,Builtin.copy_,fU,run_underlying bg,es,hlen,iI,Gg,storeCells,hh,goInt]),cM.refl h,.int _ _⟩
     .exact⟨.int .i64 0,w,φ,.inl (by simp[execOp,au,resolve,invoke,builtin,Builtin.copy_,fU,run_underlying bg,es,hlen,Gg,storeCells,hh,goInt]),cM.refl h,.int _ _⟩
    .rename_i o5
     obtain⟨oq,fs,bd⟩:=eY aa
     simp at bd
     obtain⟨rfl,rfl⟩:=bd
     rcases mP.pd with⟨p,gG,aB,c1,c2,eu,es⟩|⟨rfl,rfl,a,es⟩
     .obtain⟨iC,gQ,fC,fJ⟩:=cM.store h fs ak
      rw[aB]at gQ;simp at gQ;subst gQ
      have fJ:=fJ P
      refine⟨.int .i64 (min G6 len:Nat),_,φ,.inl ?_,fC,.int _ _⟩
      have KQ:Nat.min G6 len=min G6 len:=rfl
      simp only[execOp,au,resolve,invoke,builtin]
      simp[Builtin.copy_,fU,run_underlying bg,es,hlen,hh,goInt,KQ]
      rw[Gg]
      simp[fJ]
     .exact absurd (Nat.min_zero _) o5
   .simp at aa
  .simp at aa
 .simp at aa
theorem azw(h:Rel φ σ w)(he:Env φ aQ ρ ρ'){o:Oper}{t e:TypeId}{x:Operand}{bM:Array TypeId}(au:o.op= .call ⟨.builtin .clear, #[x],bM⟩)(fU:bM[0]? =some t)
 (bg:P.underlying t=some (.slice e)) {z:V} (bB:zeroOf P e=some z) {eB:aG} (aj:eS aQ x=some eB) {v:V} {σ':H} {m:iV} (aa:step m σ ρ (.vt z.cells eB)=some (.val v σ')):rn P φ σ w ρ' o v σ':=by
 have h9:=he _ _ aj
 obtain⟨z',k6,oe⟩:=Hq (φ:=φ) bB w
 simp only[step]at aa
 split at aa
 .rename_i aD
  rw[aD]at h9
  simp at aa
  obtain⟨rfl,rfl⟩:=aa
  exact⟨.tuple #[],w,φ,.inl (by simp[execOp,au,resolve,invoke,builtin,Builtin.clear_,fU,run_underlying bg,h9.sQ]),cM.refl h,.bN _ _ .nil⟩
 .rename_i b off len cap aMI aD
  rw[aD]at h9
  split at aa
  .rename_i ku
   subst ku
   simp at aa
   obtain⟨rfl,rfl⟩:=aa
   rcases h9.pd with⟨p,gG,aB,c1,c2,eu,es⟩|⟨_,_,a,es⟩
   .exact⟨.tuple #[],w,φ,.inl (by simp[execOp,au,resolve,invoke,builtin,Builtin.clear_,fU,run_underlying bg,es]),cM.refl h,.bN _ _ .nil⟩
   .exact⟨.tuple #[],w,φ,.inl (by simp[execOp,au,resolve,invoke,builtin,Builtin.clear_,fU,run_underlying bg,es]),cM.refl h,.bN _ _ .nil⟩
  .rename_i ku
   split at aa
   .rename_i Su
    obtain⟨oq,fs,bd⟩:=eY aa
    simp at bd
    obtain⟨rfl,rfl⟩:=bd
    rcases h9.pd with⟨p,gG,aB,c1,c2,eu,es⟩|⟨a5,_⟩
    .have ak:=M2 oe len
     obtain⟨iC,gQ,fC,fJ⟩:=cM.store h fs ak
     rw[aB]at gQ;simp at gQ;subst gQ
     have fJ:=fJ P
     have aBv:Builtin.zeroCells z'.cells len=(Array.range (len*z'.cells.toList.length)).map (fun i=>(⟨z'.cells.toList⟩:Array Value)[i%z'.cells.toList.length]!):=rfl
     refine⟨.tuple #[],_,φ,.inl ?_,fC,.bN _ _ .nil⟩
     have hs:(Builtin.clear_ bM o.type #[ρ' x]).run P w= .ok (.tuple #[]) (nr w p.b4 (p.off+off) ((Array.range (len*z'.cells.toList.length)).map (fun i=>(⟨z'.cells.toList⟩:Array Value)[i%z'.cells.toList.length]!)).toList):=by
      simp only[Builtin.clear_,List.getElem?_toArray,List.getElem?_cons_zero,fU,es]
      have aAh:∀c,(Value.slice (some (⟨p.b4,p.off+off,none⟩:Addr)) len c)= .slice (some ⟨p.b4,p.off+off,none⟩) (len-1+1) c:=fun c=>by rw[show len-1+1=len from I]
      rw[aAh]
      simp only[Sem.run_bind,run_underlying bg,Result.andThen_ok]
      rw[show len-1+1=len from I]
      simp only[k6,Result.andThen_ok,aBv,fJ,Sem.run_pure]
     simp[execOp,au,resolve,invoke,builtin,hs]
    .exact absurd a5 ku
   .simp at aa
 .simp at aa
theorem azE(h:Rel φ σ w)(he:Env φ aQ ρ ρ'){o:Oper}{x:X}(af:gZ P aQ o.op=some x){m:iV}{v:V}{σ':H}(aa:step m σ ρ x=some (.val v σ')):rn P φ σ w ρ' o v σ':=by
 cases au:o.op<;>rw[au]at af
 case load t a=>
  simp only[gZ]at af
  split at af
  .rename_i n g az aw
   obtain⟨cR,a3,rfl⟩:=eY af
   simp only[step]at aa
   obtain⟨u,hu,e⟩:=eY aa
   simp at e
   obtain⟨rfl,rfl⟩:=e
   exact azB h he au az aw a3 hu
  .simp at af
 case store t a x=>
  simp only[gZ]at af
  split at af
  .rename_i n az
   obtain⟨cR,eB,a3,aj,rfl⟩:=o2 af
   simp only[step]at aa
   split at aa
   .rename_i b off aD
    split at aa
    .rename_i hlen
     obtain⟨oq,fs,e⟩:=eY aa
     simp at e
     obtain⟨rfl,rfl⟩:=e
     exact azF h he au az a3 aj aD hlen fs
    .simp at aa
   .simp at aa
  .simp at af
 case binOp op t x y wT=>
  simp only[gZ]at af
  split at af
  .rename_i bd
   obtain⟨cR,b1,a3,ad,rfl⟩:=o2 af
   simp only[step]at aa
   obtain⟨r,ak,e⟩:=eY aa
   simp only[R.val.injEq]at e
   obtain⟨rfl,rfl⟩:=e
   exact azz h he au bd.1 bd.2 a3 ad ak
  .simp at af
 case slice t x fa aC iB=>
  cases iB with
  |some _=>simp[gZ]at af
  |none=>
   simp only[gZ]at af
   split at af
   .rename_i n e S4 p8 bg aA bd
    split at af
    .rename_i z bB
     obtain⟨cR,a3,rfl⟩:=eY af
     exact azD h he au bg bB a3 aA bd aa
    .simp at af
   .simp at af
 case lookup t x k ok=>
  simp only[gZ]at af
  split at af
  .rename_i j5 e bg
   split at af
   .rename_i z bB
    split at af
    .rename_i ah
     obtain⟨cR,b1,a3,ad,rfl⟩:=o2 af
     exact azC h he au bg bB ah a3 ad aa
    .simp at af
   .simp at af
  .simp at af
 case mapUpdate t x k y=>
  simp only[gZ]at af
  split at af
  .rename_i j5 e bg
   split at af
   .rename_i ah
    split at af
    .rename_i iA hm
     obtain⟨cR,b1,a3,ad,rfl⟩:=o2 af
     exact Ry h he (.inl au) bg ah hm a3 ad aa
    .simp at af
   .simp at af
  .simp at af
 case insert t x k y=>
  simp only[gZ]at af
  split at af
  .rename_i j5 e bg
   split at af
   .rename_i ah
    split at af
    .rename_i iA hm
     obtain⟨cR,b1,a3,ad,rfl⟩:=o2 af
     exact Ry h he (.inr au) bg ah hm a3 ad aa
    .simp at af
   .simp at af
  .simp at af
 case call c=>
  obtain⟨ce,args,bM⟩:=c
  cases ce with
  |builtin b=>
   cases b<;>simp only[gZ]at af<;>try(simp at af;done)
   case append=>
    split at af
    .rename_i s x t t2 g1 fU qX
     have:=I8 g1
     subst this
     split at af
     .rename_i e aJ bg j3
      split at af
      .rename_i i aC
       split at af
       .rename_i r9 bB
        split at af
        .rename_i ts
         obtain⟨cR,b1,a3,ad,rfl⟩:=o2 af
         simp only[step]at aa
         obtain⟨r,ak,e⟩:=eY aa
         simp only[R.val.injEq]at e
         obtain⟨rfl,rfl⟩:=e
         exact azv h he au fU qX bg j3 aC bB ts a3 ad ak
        .simp at af
       .simp at af
      .simp at af
     .simp at af
    .simp at af
   case clear=>
    split at af
    .rename_i x t g1 fU
     have:=Pp g1
     subst this
     split at af
     .rename_i e bg
      split at af
      .rename_i z bB
       obtain⟨cR,a3,rfl⟩:=eY af
       exact azw h he au fU bg bB a3 aa
      .simp at af
     .simp at af
    .simp at af
   case copy=>
    split at af
    .rename_i d s t g1 fU
     have:=I8 g1
     subst this
     split at af
     .rename_i e bg
      split at af
      .rename_i z bB
       obtain⟨cR,b1,a3,ad,rfl⟩:=o2 af
       simp only[step]at aa
       obtain⟨r,ak,e⟩:=eY aa
       simp only[R.val.injEq]at e
       obtain⟨rfl,rfl⟩:=e
       exact azx h he au fU bg bB a3 ad ak
      .simp at af
     .simp at af
    .simp at af
   case delete=>
    split at af
    .rename_i x k t g1 fU
     have:=I8 g1
     subst this
     split at af
     .rename_i j5 e bg
      split at af
      .rename_i ah
       obtain⟨cR,b1,a3,ad,rfl⟩:=o2 af
       exact azy h he au fU bg ah a3 ad aa
      .simp at af
     .simp at af
    .simp at af
   case len=>
    split at af
    .rename_i x t g1 fU
     have:=Pp g1
     subst this
     split at af
     .rename_i j5 e bg
      obtain⟨cR,a3,rfl⟩:=eY af
      exact azA h he au fU bg a3 aa
     .simp at af
    .simp at af
  |value f=>
   simp only[gZ]at af
   split at af
   .rename_i l aA
    split at af
    .simp at af;subst af
     simp[step]at aa
    .obtain⟨f1,_,rfl⟩:=eY af
     simp only[step]at aa
     split at aa<;>simp at aa
   .simp at af
  |invoke r name=>
   simp only[gZ]at af
   split at af
   .obtain⟨f1,_,rfl⟩:=eY af
    simp only[step]at aa
    split at aa
    .split at aa<;>simp at aa
    .simp at aa
   .simp at af
 case panic x=>
  simp only[gZ]at af
  obtain⟨cR,_,rfl⟩:=eY af
  simp only[step]at aa
  split at aa<;>simp at aa
 all_goals simp[gZ]at af
def Fi(P:Program)(t:TypeId)(name:String):Cg->Prop
 | .fn f=>∀v w,(method (P.types.size+Made.depth) t v name).run P w= .ok (f,v) w/\(method (P.types.size+Made.depth-1) t v name).run P w= .ok (f,v) w
 | .vz=>∃ft,jQ P ft=some 1/\se P ft=some false/\∀a w t' v',(loadVar ft a).run P w= .ok (.iface t' v') w->(method (P.types.size+Made.depth) t (.pointer (some a)) name).run P w=(method (P.types.size+Made.depth-1) t' v' name).run P w
def rq(P:Program)(m:iV):Prop:=
 ∀t name x,m t name=some x->Fi P t name x
theorem aDx{P:Program}{m:iV}(hm:rq P m){φ:F}{σ:H}{w:World}(h:Rel φ σ w){t:TypeId}{v:V}{v':Value}(hv:cu φ v v'){name:String}{p:FuncId×V}(aB:uS m σ t v name=some p):
 ∃bj,cu φ p.2 bj/\(method (P.types.size+Made.depth) t v' name).run P w= .ok (p.1,bj) w:=by
 unfold uS at aB
 split at aB
 .rename_i f aV
  simp at aB;subst aB
  exact⟨v',hv,((hm t name _ aV) v' w).1⟩
 .rename_i aV
  split at aB
  .rename_i t2 v2 aA
   split at aB
   .rename_i f h8
    simp at aB;subst aB
    obtain⟨ft,J,U,aq⟩:=hm t name _ aV
    obtain⟨u,q,rfl,tk,ak⟩:=Ha h J U hv aA
    obtain⟨fm,rfl,aBf⟩:=ak.Bn
    exact⟨fm,aBf,by rw[aq _ _ _ _ tk];exact((hm t2 name _ h8) fm w).2⟩
   .simp at aB
  .simp at aB
 .simp at aB
theorem axg{x:X}{m:iV}{f:FuncId}{args:List V}{σ':H}(aa:step m σ ρ x=some (.enter f args σ')):
 (∃l,x= .call f l/\args=l.map ρ/\σ'=σ)\/(∃g l a c,x= .pr g l/\ρ g= .fn (.func f) a c/\args=a++l.map ρ++c/\σ'=σ)\/
 (∃name r l t v u,x= .invoke name r l/\ρ r= .iface t v/\uS m σ t v name=some (f,u)/\args=u::l.map ρ/\σ'=σ):=by
 cases x<;>simp only[step]at aa
 case call g l=>
  simp at aa
  obtain⟨rfl,rfl,rfl⟩:=aa
  exact .inl ⟨l,rfl,rfl,rfl⟩
 case pr g l=>
  split at aa
  .rename_i ba a c e
   simp at aa
   obtain⟨rfl,rfl,rfl⟩:=aa
   exact .inr (.inl ⟨g,l,a,c,rfl,e,aM,rfl⟩)
  .simp at aa
 case invoke name r l=>
  split at aa
  .rename_i t v e
   split at aa
   .rename_i g aw
    simp at aa
    obtain⟨rfl,rfl,rfl⟩:=aa
    exact .inr (.inr ⟨name,r,l,t,v,g.2,rfl,e,aw,rfl,rfl⟩)
   .simp at aa
  .simp at aa
 all_goals(exfalso;(try(repeat' split at aa))<;>simp at aa)
theorem aEx{x:X}{m:iV}{v:V}{σ':H}(aa:step m σ ρ x=some (.fN v σ')):∃y t u,x= .panic y/\ρ y= .iface t u/\v= .iface t u/\σ'=σ:=by
 cases x<;>simp only[step]at aa
 case panic y=>
  split at aa
  .rename_i t u e
   simp at aa
   obtain⟨rfl,rfl⟩:=aa
   exact⟨y,t,u,rfl,e,rfl,rfl⟩
  .simp at aa
 all_goals(exfalso;(try(repeat' split at aa))<;>simp at aa)
theorem awT{aQ:List Nat}{op:Go.Op}{y:aG}(h:gZ P aQ op=some (.panic y)):∃x,op= .panic x/\eS aQ x=some y:=by
 cases op
 case panic x=>
  simp only[gZ]at h
  obtain⟨B8,ai,e⟩:=eY h
  simp at e;subst e
  exact⟨x,rfl,ai⟩
 case slice c6 cO fc kR iB=>
  cases iB<;>simp only[gZ]at h
  ·(repeat' split at h)<;>(try simp at h)
  .simp at h
 case call c=>
  obtain⟨ce,as,bM⟩:=c
  cases ce with
  |builtin b=>cases b<;>simp only[gZ]at h<;>(repeat' split at h)<;>simp[kX]at h<;>(try(repeat' split at h)<;>simp at h)
  |value q=>simp only[gZ]at h;(repeat' split at h)<;>simp at h
  |invoke r n=>simp only[gZ]at h;(repeat' split at h)<;>simp at h
 all_goals(simp only[gZ]at h;(repeat' split at h)<;>(try simp[kX]at h)<;>(try(repeat' split at h)<;>simp at h))
theorem aEy(he:Env φ aQ ρ ρ'){o:Oper}{x:X}(af:gZ P aQ o.op=some x){m:iV}{v:V}{σ':H}(aa:step m σ ρ x=some (.fN v σ'))(w:World):
 σ'=σ/\∃v',cu φ v v'/\(execOp ρ' o).run P w= .halt (.panic v') w:=by
 obtain⟨y,t,u,rfl,e,rfl,rfl⟩:=aEx aa
 obtain⟨x,au,aj⟩:=awT af
 have hv:=he _ _ aj
 rw[e]at hv
 obtain⟨bj,ee,hu⟩:=hv.Bn
 refine⟨rfl,.iface t bj,.iface _ _ _ hu,?_⟩
 simp[execOp,au,ee,Instr.panic,goPanic]
theorem I7(args:Array Operand)(l':List Value)(h:args.toList.map ρ'=l'):args.map ρ'=⟨l'⟩:=by apply Array.toList_inj.1;simpa using h
theorem av'{w:World}(h:Rel φ σ w)(he:Env φ aQ ρ ρ')(azR:∀g,ρ' (.func g)= .func (.func g) #[] #[]){o:Oper}{x:X}(af:gZ P aQ o.op=some x){m:iV}(hm:rq P m){f:FuncId}{args:List V}{σ':H}(aa:step m σ ρ x=some (.enter f args σ')):
 σ'=σ/\∃args',eD φ args args'/\(execOp ρ' o).run P w=(callFunc f ⟨args'⟩).run P w:=by
 have mf:∃ce as bM,o.op= .call ⟨ce,as,bM⟩/\∀b,ce≠ .builtin b:=by
  rcases axg aa with⟨l,rfl,_⟩|⟨g,l,a,c,rfl,_⟩|⟨name,r,l,t,v,u,rfl,_⟩
  all_goals
   cases au:o.op<;>rw[au]at af
   case slice c6 cO fc kR iB=>
    cases iB<;>simp only[gZ]at af
    ·(repeat' split at af)<;>(try simp at af)
    .simp at af
   all_goals(try simp only[gZ]at af)
   case call c=>
    obtain⟨ce,as,bM⟩:=c
    refine⟨ce,as,bM,rfl,fun b ad=>?_⟩
    subst ad
    cases b<;>simp only at af<;>(repeat' split at af)<;>simp[kX]at af<;>(try(repeat' split at af)<;>simp at af)
   all_goals((repeat' split at af)<;>(try simp[kX]at af)<;>(try(repeat' split at af)<;>simp at af))
 obtain⟨ce,as,bM,au,v7⟩:=mf
 rw[au]at af
 cases ce with
 |builtin b=>exact absurd rfl (v7 b)
 |value q=>
  simp only[gZ]at af
  split at af
  .rename_i l aA
   have g1:=BL he aA
   split at af
   .rename_i g
    simp at af;subst af
    simp[step]at aa
    obtain⟨rfl,rfl,rfl⟩:=aa
    refine⟨rfl,as.toList.map ρ',g1,?_⟩
    have e:=azR g
    have pU:=I7 (ρ':=ρ') as _ rfl
    have bP:(#[]:Array Value)++as.map ρ'++(#[]:Array Value)=⟨as.toList.map ρ'⟩:=by rw[pU];apply Array.toList_inj.1;simp
    simp only[execOp,au,resolve,e,Deferred.ofValue]
    simp only[Sem.run_bind,Sem.run_pure,Result.andThen_ok,invoke,bP]
   .obtain⟨f1,cL,rfl⟩:=eY af
    simp only[step]at aa
    split at aa
    .rename_i g a c aD
     simp at aa
     obtain⟨rfl,rfl,rfl⟩:=aa
     have hv:=he _ _ cL
     rw[aD]at hv
     obtain⟨a',c',e,J,U⟩:=hv.JQ
     refine⟨rfl,a'++as.toList.map ρ'++c',by simpa using(J.append g1).append U,?_⟩
     have pU:=I7 (ρ':=ρ') as _ rfl
     have bP:(⟨a'⟩:Array Value)++as.map ρ'++(⟨c'⟩:Array Value)=⟨a'++as.toList.map ρ'++c'⟩:=by rw[pU];apply Array.toList_inj.1;simp
     simp only[execOp,au,resolve,e,Deferred.ofValue]
     simp only[Sem.run_bind,Sem.run_pure,Result.andThen_ok,invoke,bP]
    .simp at aa
  .simp at af
 |invoke r name=>
  simp only[gZ]at af
  split at af
  .rename_i l aA
   have g1:=BL he aA
   obtain⟨gJ,dL,rfl⟩:=eY af
   simp only[step]at aa
   split at aa
   .rename_i t v aD
    split at aa
    .rename_i g aw
     simp at aa
     obtain⟨rfl,rfl,rfl⟩:=aa
     have hv:=he _ _ dL
     rw[aD]at hv
     obtain⟨v',e,J⟩:=hv.Bn
     obtain⟨bj,hu,KQ⟩:=aDx hm h J aw
     refine⟨rfl,bj::as.toList.map ρ',.cons _ _ _ _ hu g1,?_⟩
     have pU:=I7 (ρ':=ρ') as _ rfl
     have bP: #[bj]++(#[ρ' r]++as.map ρ').extract 1 (#[ρ' r]++as.map ρ').size=⟨bj::as.toList.map ρ'⟩:=by
      rw[pU];apply Array.toList_inj.1;simp[List.take_of_length_le]
     simp only[execOp,au,resolve]
     simp only[Sem.run_bind,Sem.run_pure,Result.andThen_ok,invoke]
     have g0:(#[ρ' r]++as.map ρ')[0]? =some (ρ' r):=by rw[pU];simp
     rw[g0]
     simp only[callMethod,e]
     simp only[Sem.run_bind,run_program,Result.andThen_ok,KQ]
     rw[e]at bP
     rw[bP]
    .simp at aa
   .simp at aa
  .simp at af
end
end
