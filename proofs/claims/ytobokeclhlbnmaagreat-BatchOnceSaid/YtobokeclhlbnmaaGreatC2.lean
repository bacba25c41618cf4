/- Proved here: crossbarlaw20.BatchOnce returns true, whatever is handed in; what is handed in reads as it did. No condition. -/
import Derived.Test.YtobokeclhlbnmaaGreatC1
import Derived.Test.YtobokeclhlbnmaaGreatB25
import Derived.Test.YtobokeclhlbnmaaGreatJ1
import Derived.Test.YtobokeclhlbnmaaGreatJ2
import Derived.Test.YtobokeclhlbnmaaGreatJ3
import Derived.Test.YtobokeclhlbnmaaGreatJ4
import Derived.Test.YtobokeclhlbnmaaGreatJ5
set_option linter.all false
namespace Go.Proofs.YtobokeclhlbnmaaGreat.batchOnce
open Go Go.Abs Go.ChangeShapes Go.WideShapes Go.ChangeAt Go.RowKit
open Run (jn oi aQ)
set_option maxRecDepth 100000
section
theorem own:ownKnob Tryz.prog.godebug=none:=by kernel_rfl
theorem laid:laidOutB Tryz.prog=true:=by kernel_rfl
theorem P8:Tryz.prog.cellsOf 3=1:=by kernel_rfl
theorem aws:Tryz.prog.cellsOf 38=1:=by kernel_rfl
theorem awr:Tryz.prog.cellsOf 23=5:=by kernel_rfl
theorem keeps{φ cz:F}{σ σ':H}{w w':World}(h:cM φ σ w cz σ' w')(aV:∀k,¬wZ φ σ k):w.keptBut w' (fun _=>False):=by
 have j4:∀k,k<w.heap.size->w'.heap[k]? =w.heap[k]? :=fun k ah=>h.j4 k ah (aV k)
 refine⟨h.os,h.out,fun i aC=>?_⟩
 rw[j4 i aC]
 have:w.heap[i]? =some w.heap[i]:=by simp[aC]
 rw[this]
 cases w.heap[i]<;>simp
theorem walk(W:World)(cR b7 fF gx mz:Int){kv pv:Value}{klen np:Nat}(ah:ys W .u64 kv klen)(aB:ys W .i64 pv np):
 Calls Tryz.prog 3 #[.agg #[.int .i64 cR,.int .i64 b7,.int .i64 fF,.int .i64 gx,.int .i64 mz],kv,pv] W fun e w'=>e= .returned (.bool true)/\W.keptBut w' (fun _=>False)/\∀k,k<W.heap.size->w'.heap[k]? =W.heap[k]? :=by
 obtain⟨bl,de,AU⟩:=QO (yD kv++yD pv)
 have jB:Rel (u7 W bl) (tO W bl) W:=aGS de fun c af=>by
  rcases List.mem_append.1 ((AU c).1 af)with h|h
  .exact ah.kc c h
  .exact aB.kc c h
 obtain⟨u,hu,aBd,aBe⟩:=ah.words (bl:=bl) fun c af=>(AU c).2 (List.mem_append_left _ af)
 obtain⟨v,hv,Bk,h9⟩:=aB.words (bl:=bl) fun c af=>(AU c).2 (List.mem_append_right _ af)
 have lt:=ar' W bl
 have aBC:∀w:Int,(Lit.int .u64 w).wf=true->Run.dZ w:=fun w h=>by
  simp only[Lit.wf,IntKind.min,IntKind.max,IntKind.signed,IntKind.bits,Bool.and_eq_true,decide_eq_true_eq]at h
  simp at h
  exact⟨h.1,I⟩
 have jI:Run.ui .u64 (wN W bl) bl.length bl.length u klen:=⟨aBd,fun h=>by
  obtain⟨b,o,cap,ro,cells,aD,aJ,bP,g0⟩:=aBe h
  exact⟨b,o,cap,ro,cells,aD,aJ,bP,I,fun j ax=>by
   obtain⟨w,J,U⟩:=g0 j ax
   exact⟨w,J,fun _=>aBC w U⟩⟩⟩
 have p3:Run.ui .i64 (wN W bl) bl.length bl.length v np:=⟨Bk,fun h=>by
  obtain⟨b,o,cap,ro,cells,aD,aJ,bP,g0⟩:=h9 h
  exact⟨b,o,cap,ro,cells,aD,aJ,bP,I,fun j ax=>by
   obtain⟨w,J,U⟩:=g0 j ax
   exact⟨w,J,fun e=>by cases e⟩⟩⟩
 have dJ:=Run.aEo (kind:=cR) (d1:=b7) (d2:=fF) (d3:=gx) (d4:=mz) (K:=fun r _ _ _=>r= .bool true) lt jI p3 (fun _ _ _ _=>rfl)
 have aa:Sat Run.lM (wN W bl) bl.length none (tO W bl):=aGT W bl (fun _ h=>h)
 have aC:=dJ (tO W bl) aa
 have af:=Run.av_ aC jB (fun g aw=>by simp[aQ]at aw) (args':=[.agg ⟨[.int .i64 cR,.int .i64 b7,.int .i64 fF,.int .i64 gx,.int .i64 mz]⟩,kv,pv])
  (.cons _ _ _ _ (.agg _ _ (.cons _ _ _ _ (.int _ _) (.cons _ _ _ _ (.int _ _) (.cons _ _ _ _ (.int _ _) (.cons _ _ _ _ (.int _ _) (.cons _ _ _ _ (.int _ _) .nil)))))) (.cons _ _ _ _ hu (.cons _ _ _ _ hv .nil)))
 refine af.mono ?_
 rintro e w' ⟨r,σ',v',cz,⟨g',n',a',_,_,rfl⟩,rfl,fC,kg⟩
 cases kg
 exact⟨rfl,keeps fC (ar8 W bl),fun k ah=>fC.j4 k ah (ar8 W bl k)⟩
section
variable{H:Type}{enc:TypeId×Value->H}{W:World}{base:Nat}{sp:Nat->Bool}{held:Bool}
theorem jD{gM:Nat}{al:List Value}{x:DataW H×List MemPlace}(h:DataW.trod enc Tryz.prog W base sp held gM 3 al=some x):∃n,al=[.int .i64 n]:=by
 cases gM with
 |zero=>simp[DataW.trod]at h
 |succ f=>
  unfold DataW.trod at h
  rw[Tryz.underlying3]at h
  split at h<;>simp_all
theorem aHZ{v:Value}{d:DataW H}{p:List MemPlace}(hv:∃al,v= .agg al)(h:DataW.Trod enc Tryz.prog W base sp held 23 v d p):∃cR b7 fF gx mz,v= .agg #[.int .i64 cR,.int .i64 b7,.int .i64 fF,.int .i64 gx,.int .i64 mz]:=by
 obtain⟨al,rfl⟩:=hv
 obtain⟨gM,h⟩:=h
 obtain⟨xs,n,_,_,aA,Li,aV⟩:=DataW.trod_struct Tryz.underlying23 h
 rw[awr]at aA
 have aA:al.toList.length=5:=aA
 have Li:xs.length=5:=Li
 have one:∀i,i<5->∃m,(al.toList.drop i).take 1=[.int .i64 m]:=by
  intro i aC
  have key:∀f:Field,f.type=3->f.offset=i-> #[({name:= "Kind",type:=3,offset:=0,embedded:=false,tag:= "",pkgPath:= "",byteOffset:=0}:Field),{name:= "Entries",type:=3,offset:=1,embedded:=false,tag:= "",pkgPath:= "",byteOffset:=8},
   {name:= "Words",type:=3,offset:=2,embedded:=false,tag:= "",pkgPath:= "",byteOffset:=16},{name:= "Buckets",type:=3,offset:=3,embedded:=false,tag:= "",pkgPath:= "",byteOffset:=24},{name:= "Inner",type:=3,offset:=4,embedded:=false,tag:= "",pkgPath:= "",byteOffset:=32}][i]? =some f->∃m,(al.toList.drop i).take 1=[.int .i64 m]:=fun f J U aq=>by
   have:=aV i f aq
   rw[J,U,P8,List.getElem?_eq_getElem I]at this
   exact jD this
  match i,aC with
  |0,_=>exact key _ rfl rfl rfl
  |1,_=>exact key _ rfl rfl rfl
  |2,_=>exact key _ rfl rfl rfl
  |3,_=>exact key _ rfl rfl rfl
  |4,_=>exact key _ rfl rfl rfl
 obtain⟨l3,a5⟩:=one 0 I
 obtain⟨iA,J⟩:=one 1 I
 obtain⟨pC,U⟩:=one 2 I
 obtain⟨jl,aq⟩:=one 3 I
 obtain⟨xW,aK⟩:=one 4 I
 refine⟨l3,iA,pC,jl,xW,?_⟩
 congr 1
 obtain⟨l⟩:=al
 match l,aA with
 |[dd,c1,c2,eu,jH],_=>simp_all
theorem SA{t e:TypeId}{k:IntKind}{v:Value}{d:DataW H}{p:List MemPlace}(bg:Tryz.prog.underlying t=some (.slice e))(he:Tryz.prog.underlying e=some (.int k))(af:Tryz.prog.cellsOf e=1)
 (hv:∃a len cap,v= .slice a len cap) (h:DataW.Trod enc Tryz.prog W 0 (fun _=>true) held t v d p):∃len,ys W k v len:=by
 obtain⟨FF,len,cap,rfl⟩:=hv
 obtain⟨gM,h⟩:=h
 rcases open_ints bg he af h with⟨cC,_⟩|⟨a,qi,gG,dt,cC,_,aA,_,bB,_,qP,hw⟩
 .simp[Value.cells]at cC
  obtain⟨rfl,rfl,rfl⟩:=cC
  exact⟨0,.inl ⟨rfl,rfl⟩⟩
 .simp[Value.cells]at cC
  obtain⟨rfl,rfl,rfl⟩:=cC
  exact⟨len,.inr ⟨a,cap,dt,rfl,aA,by simpa using bB,qP,hw⟩⟩
end
theorem lifted(os:Os)(started:os.Started)(H:Type)(enc:TypeId×Value->H):
 ReturnsInHanded {} Tryz.checked os 3 .any (Rows.batchOnceSpec.pre6 enc Tryz.prog Tryz.f3 Rows.batchOnceRow.domain false) (Rows.batchOnceSpec.post enc Tryz.prog Tryz.f3 false true false false):=by
 refine returnsInHanded_of_change (C:=Tryz.checked) own started (by kernel_rfl) Tryz.func3
  (ChangeSpec.witness6 (enc:=enc) (C:=Tryz.checked) false ⟨#[], #[.agg #[.int .i64 0,.int .i64 0,.int .i64 0,.int .i64 0,.int .i64 0],.slice none 0 0,.slice none 0 0],[]⟩ 8 (by kernel_rfl) (by kernel_rfl) (by kernel_rfl) (by kernel_rfl)) ?_
 intro W base args ds gs before aBi dx aKK _
 have GI:∀(j:Nat) t v,Tryz.f3.params[j]? =some t->args[j]? =some v->Value.okWide Tryz.prog W .any base t v:=aBi
 have ayZ:=dx
 have ap:=dx.lt
 obtain⟨p,q,yV,ayY,rfl,aKN,gO⟩:=dx
 have iY:DataW.TrodAll enc Tryz.prog W 0 (fun _=>true) true Tryz.f3.params.toList args.toList ds p:=yV
 rw[Tryz.params3]at iY GI
 obtain⟨nV,v1,v2,d0,d1,d2,sJ,j6,iC,rfl,rfl,rfl,a5,J,U⟩:=trodAll_three iY
 obtain⟨rfl,rfl⟩:=trodVars_none ayY
 have f0:=GI 0 23 nV rfl rfl
 obtain⟨cR,b7,fF,gx,mz,rfl⟩:=aHZ (by
  unfold Value.okWide at f0
  rw[Tryz.underlying23]at f0
  obtain⟨al,e,_⟩:=f0
  exact⟨al,e⟩) a5
 obtain⟨klen,ah⟩:=SA Tryz.underlying24 Tryz.underlying38 aws (okWide_slice Tryz.underlying24 (GI 1 24 v1 rfl rfl)) J
 obtain⟨np,aB⟩:=SA Tryz.underlying25 Tryz.underlying3 P8 (okWide_slice Tryz.underlying25 (GI 2 25 v2 rfl rfl)) U
 refine(walk W cR b7 fF gx mz ah aB).mono fun e Iy ⟨he,az8,bd⟩=>?_
 subst he
 have same:∀x:MemPlace,x.block<W.heap.size->W.sameAt Iy x:=fun x aj=>by
  cases x with
  |cell b off=>show Iy.cell? _=W.cell? _;unfold World.cell?;simp only[bd b aj]
  |map b=>exact bd b aj
 have stays:∀{t:TypeId} {v:Value} {d:DataW H} {hk:List MemPlace},Tryz.prog.readableRec t=true->t<Tryz.prog.types.size->DataW.Trod enc Tryz.prog W 0 (fun _=>true) true t v d hk->(∀x∈hk,x∈sJ++j6++iC++[])->
  DataW.Trod enc Tryz.prog Iy 0 (fun b=>decide (b<W.heap.size)) true t v d hk:=fun ak aAW h hm=>
  Go.WideElems.Trod_stays laid ak aAW h (fun x aj=>same x (ap x (hm x aj))) (fun x aj=>by simpa using ap x (hm x aj))
 refine⟨_,rfl,_,_,_,[],sJ++(j6++iC),[],ayZ,?_,?_,?_,World.keptBut_mono ?_ az8,fun h=>by cases h⟩
 .exact trodAll_mk1 (shut_bool Tryz.underlying4 true)
 .have:=trodAll_mk3 (stays (by kernel_rfl) (of_decide_eq_true (by kernel_rfl)) a5 (fun x aj=>by simp[aj])) (stays (by kernel_rfl) (of_decide_eq_true (by kernel_rfl)) J (fun x aj=>by simp[aj])) (stays (by kernel_rfl) (of_decide_eq_true (by kernel_rfl)) U (fun x aj=>by simp[aj]))
  exact this
 .rfl
 .intro p aB;exact aB.elim
theorem proved:Rows.BatchOnceSaid:=
 OpenClaim.holds_of_wide 3 Tryz.f3 rfl rfl rfl rfl rfl rfl rfl ⟨rfl,rfl,rfl,rfl,rfl⟩ rfl rfl rfl rfl rfl (by kernel_rfl) Tryz.func3 (aBI d1 d2 d3 d4)
  (of_decide_eq_true (by kernel_rfl)) (by unfold Func.isWrapper;first|(rw[if_pos (by decide+kernel)];kernel_rfl)|(rw[if_neg (by decide+kernel)];exact⟨rfl,rfl⟩))
  (fun os started H enc _=>lifted os started H enc)
end
