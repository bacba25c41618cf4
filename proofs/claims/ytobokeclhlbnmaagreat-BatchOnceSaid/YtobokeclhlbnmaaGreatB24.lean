/- Part of the proof of BatchOnce, for every input. -/
import Derived.Test.YtobokeclhlbnmaaGreatB23
set_option linter.all false
namespace Go.Proofs.Run
open Go Go.Abs
attribute [local irreducible] b9 cI cr cg aR
set_option maxRecDepth 100000
set_option maxHeartbeats 4000000
section
variable{κ:fw}{W:kj κ}{x:hE κ}{kind d1 d3:Int}{A0 ed B0 bR:Nat}{e5 g:G}{n:Nat}{a8:List Int}{a:aE}{m:Nat->hO}{hd:Nat->List Nat}{hH:List Nat}{gi:V}{s:Nat->dM κ}{aX:List Int}{aS dc:Int}{M:Nat}{z:W.Z}{k:Nat}
structure Ff(e5:G)(A0 bR:Nat)(kv:V)(len:Nat):Prop where
 ex:∃gh Ly cap ro cells,kv= .slice gh Ly len cap 1/\e5 gh=some (.al ro cells)/\gh<bR/\gh≠A0/\∀j,j<len->∃w,cells[Ly+j]? =some (.int .u64 w)/\dZ w
 pos:0<len
theorem avz{kv pv:V}{klen:Nat}{most i:Int}{t:T V}{E:Nat->fp (Option aE)}{R N:fp (Option aE)}(F:sZ x kind d1 d3 A0 ed B0 bR e5)(D:Ai x kind)(lR:V.same 40 κ.aI κ.aI=true)(jI:Ff e5 A0 bR kv klen)(h:kk W x kind A0 bR e5 g n a8 a m hd hH gi s aX aS dc M z)(ah:3<=k/\k<5)(lH:s k= .off)(kJ:aS<2000)
 (T:n2 t kv pv B0 A0 ed gi aS most i) (kd:aW t (.t 14)= .int .i64 k) (l_:aW t (.t 15)= .ptr A0 (k*4))
 (aF:∀t' g' n' js a' hW oA l' fE,n<=n'->kk W x kind A0 bR e5 g' n' js a' hW oA hH gi (bT s k (.dz l')) aX (aS+1) (dc+1) fE z->n2 t' kv pv B0 A0 ed gi (aS+1) most i->aW t' (.t 14)= .int .i64 k->aW t' (.t 15)= .ptr A0 (k*4)->N t' g' n' (some a')):b9 lM bA Em N E R t g n (some a):=by
 obtain⟨aD,aJ,bP,dB,dN,e4,ef,fR,fS⟩:=T
 have iY:=h.iY
 have hlen:=xa (m:=m)
 have eu:((k:Int)<3)=False:=eq_false I
 have c2:((2:Int)< (k:Int))=True:=eq_true I
 have yV:=F.nq.2.2
 have nc:=h.dF
 have vF:g ed=some (.al false [.ptr κ.an 0,.ptr κ.ar 0,.ptr x.X 0,.int .i64 kind,.int .i64 d1,.int .i64 1,.int .i64 d3,.int .i64 0]):=by
  have:=F.nq.1;rw[h.mq ed this.1 this.2];exact F.S
 have uq:(A0=ed)=False:=eq_false fun e=>F.nq.1.2 e.symm
 have um:(k*4+4<=20)=True:=eq_true I
 obtain⟨⟨em,pV⟩,yX,⟨sj,pU⟩,_,_,_,RO,aAc⟩:=h.jk.facts
 have me:(k:Int)∉a8:=fun hm=>(h.jk.mem I).1 hm lH
 obtain⟨⟨gh,Ly,aLc,aCm,aBQ,rfl,KM,uG,KL,Dt⟩,xN⟩:=jI
 have az6:g gh=some (.al aCm aBQ):=by rw[h.mq gh uG KL];exact KM
 have P0:(A0=gh)=False:=eq_false fun e=>KL e.symm
 have dA:IntKind.wrap .u64 (aS+1)=aS+1:=wrap_u64 I I
 have h1:IntKind.wrap .i64 (aS+1)=aS+1:=wrap_i64 I I
 have aKE:=F.nq.1.1
 obtain⟨j,ax,KJ⟩:∃j:Nat,(aS+1).tmod (klen:Int)=j/\j<klen:=by
  have J:=Int.tmod_nonneg (b:=(klen:Int)) (I:0<=aS+1)
  have U:=Int.tmod_lt_of_pos (aS+1) (I:(0:Int)<klen)
  exact⟨((aS+1).tmod klen).toNat,I,I⟩
 obtain⟨w,hw,aBq⟩:=Dt j KJ
 have aMM:((klen:Int)=0)=False:=eq_false I
 have aMN:(0<=(j:Int))=True:=eq_true I
 have aMO:((j:Int)< (klen:Int))=True:=eq_true I
 refine aL gd (bs aD aJ bP dB dN e4 ef fR fS kd l_ vF) ?_
 refine qj (JE pV I (by rw[pU];omega) (by rw[sj];exact me) fun bq g4=>?_)
 intro dE
 refine aL gd (bs aD aJ bP dB dN e4 ef fR fS kd l_ (jO iY vF uq P0 eu um hlen dA (fun m=>@Cs m _ (I:k<5)))) ?_
 refine aL gd (bs aD aJ bP dB dN e4 ef fR fS kd l_ (bs iY vF az6 uq P0 eu um hlen dA h1 ax (e_ aMM aMN aMO hw @Int.toNat_natCast (ag (I:A0<bq)) (ag (I:ed<bq)) (ag (I:gh<bq))))) ?_
 obtain⟨Al,Dd⟩:∃G,G=a1 (lF (a1 g A0 (bt.al false (gV (fx m k {bK:=(m k).bK,dz:=(m k).dz,on:=true})))) bq 18) (bq+12) (bt.al false [V.int IntKind.u64 (aS+1)]):=⟨_,rfl⟩
 have Ra:kB bq 18 Al:=by rw[Dd];simp only[Gs,A7]
 have ayy:Al A0=some (.al false (gV (fx m k {bK:=(m k).bK,dz:=(m k).dz,on:=true}))):=by rw[Dd];exact bc (ag (I:A0<bq))
 have sr:∀y,y<bq->y≠A0->Al y=g y:=fun y J U=>by
  have awX:(A0=y)=False:=eq_false fun e=>U e.symm
  rw[Dd];exact bc (aN awX (ag (I:y<bq)))
 have aBg:Al (bq+12)=some (.al false [V.int IntKind.u64 (aS+1)]):=by rw[Dd,bJ,if_pos rfl]
 rw[<-Dd]
 have tg:ey κ.dv Al:=F.uu fun y J U=>by rw[sr y I U];exact h.mq y J U
 refine dO fun dC=>qj (avB D lR F.dQ tg ⟨em,pV⟩ dC aBg fun ko dD lb fl l aA lD rL=>?_)
 intro p_
 have v3:=lD.az
 have jM:∀y,y<bq+18->ko y=Al y:=fun y J=>lD.aw y J aM
 refine⟨kB.b6 Ra fun q av=>jM _ I,?_⟩
 have vC:=(jM A0 I).trans ayy
 have xF:=xa (m:=fx m k {bK:=(m k).bK,dz:=(m k).dz,on:=true})
 have Jj:(k*4+2<=20)=True:=eq_true I
 have c1:(gV (fx (fx m k {bK:=(m k).bK,dz:=(m k).dz,on:=true}) k {fx m k {bK:=(m k).bK,dz:=(m k).dz,on:=true} k with dz:=V.ptr lb 0}))[k*4+1]? =some (.ptr lb 0):=by rw[Pl I];simp[fx]
 refine aL (aN aeh.eq_1 gd) (bs aD aJ bP dB dN e4 ef fR fS kd l_ (gq vC eu c2 Jj xF (au8 (m:=fx m k {bK:=(m k).bK,dz:=(m k).dz,on:=true}) (I:k<5)) c1)) ?_
 refine⟨kB.b6 Ra fun q av=>by rw[bJ,if_neg I];exact jM _ I,?_⟩
 refine aL gd (bs aD aJ bP dB dN e4 ef fR fS kd l_ (cw eu c2 c1)) ?_
 obtain⟨Ap,J⟩:=h.jk.axf ah lH kJ aBq aA
 have gO:(a8++[(k:Int)]).Nodup:=List.nodup_append.2 ⟨h.de,aM,fun y ai B8 uM=>by simp only[List.mem_singleton]at uM;rintro rfl;exact me (uM▸ai)⟩
 have cE:∀y∈fl,y<dD/\bq+18<=y:=fun y ai=>⟨lD.lt y ai,by have:=lD.sub y ai;simp at this;omega⟩
 have xE:=p_.a1 (I:A0<dD) (bt.al false (gV (fx (fx m k {bK:=(m k).bK,dz:=(m k).dz,on:=true}) k {fx m k {bK:=(m k).bK,dz:=(m k).dz,on:=true} k with dz:=V.ptr lb 0})))
 have L_:∀y,y<bq->y≠A0->(a1 ko A0 (bt.al false (gV (fx (fx m k {bK:=(m k).bK,dz:=(m k).dz,on:=true}) k {fx m k {bK:=(m k).bK,dz:=(m k).dz,on:=true} k with dz:=V.ptr lb 0})))) y=g y:=fun y J U=>by rw[bJ,if_neg (fun e=>U e.symm),jM y I];exact sr y J U
 have azd:ey κ.dv ko:=F.uu fun y J U=>by rw[jM y I,sr y I U];exact h.mq y J U
 have aze:=F.uu (g:=a1 ko A0 (bt.al false (gV (fx (fx m k {bK:=(m k).bK,dz:=(m k).dz,on:=true}) k {fx m k {bK:=(m k).bK,dz:=(m k).dz,on:=true} k with dz:=V.ptr lb 0})))) fun y J U=>by rw[L_ y I U];exact h.mq y J U
 refine aF _ _ dD (a8++[(k:Int)]) (a.enter k) (fx (fx m k {bK:=(m k).bK,dz:=(m k).dz,on:=true}) k {fx m k {bK:=(m k).bK,dz:=(m k).dz,on:=true} k with dz:=V.ptr lb 0}) (bT hd k fl) l Ap I (h.gen F I I xE (fun y J _ _ U=>L_ y I U) (by rw[bJ,if_pos rfl]) (fun j ax=>by simp[fx,ax]) J gO ⟨by simp[fx],lb,by simp[fx],rL.b6 azd aze fun y ai=>?_⟩ (fun y ai=>⟨(cE y ai).1,.inr (by have:=(cE y ai).2;omega)⟩) (h.z7.b6 fun y ai=>?_) fun y ai=>⟨by have:=(h.iu y ai).1;omega,.inl ai,fun hm=>?_⟩) ⟨bD aD,bD aJ,bD bP,bD dB,bD dN,bD e4,bD ef,bD fR,bD fS⟩ (bD kd) (bD l_)
 .rw[bJ,if_neg (fun e=>by have:=cE y ai;omega)]
 .have:=(h.iu y ai).1;exact L_ y I I
 .have:=(h.iu y ai).1;have:=cE y hm;omega
end
section
variable{κ:fw}{W:kj κ}{x:hE κ}{kind d1 d3:Int}{A0 ed B0 bR:Nat}{e5 g:G}{n:Nat}{a8:List Int}{a:aE}{m:Nat->hO}{hd:Nat->List Nat}{hH:List Nat}{gi:V}{s:Nat->dM κ}{aX:List Int}{aS dc:Int}{M:Nat}{z:W.Z}{k:Nat}
theorem kk.mono{nb':Int}(h:kk W x kind A0 bR e5 g n a8 a m hd hH gi s aX aS dc M z)(az:dc<=nb'):kk W x kind A0 bR e5 g n a8 a m hd hH gi s aX aS nb' M z:=
 ⟨h.jk.mono az,h.de,h.dF,h.lt,h.iY,h.q6,h.eI,h.AL,h.z7,h.iu,h.mq⟩
theorem kk.on(h:kk W x kind A0 bR e5 g n a8 a m hd hH gi s aX aS dc M z)(ah:k<5):((m k).on=true↔s k≠ .off)/\((∃b,s k= .bK b/\k<3)\/(∃l,s k= .dz l/\3<=k)\/s k= .off):=by
 have ak:=h.q6 k ah
 have dQ:=h.jk.lI k ah
 cases aa:s k with
 |off=>rw[aa]at ak;exact⟨⟨fun e=>(by rw[ak.1]at e;cases e),fun e=>absurd rfl e⟩,.inr (.inr rfl)⟩
 |bK b=>
  rw[aa]at ak
  refine⟨⟨fun _=>aM,fun _=>ak.1⟩,.inl ⟨b,rfl,?_⟩⟩
  rcases Nat.lt_or_ge k 3 with aq|aq
  .exact aq
  .exact absurd aa (dQ.1 aq b)
 |dz l=>
  rw[aa]at ak
  refine⟨⟨fun _=>aM,fun _=>ak.1⟩,.inr (.inl ⟨l,rfl,?_⟩)⟩
  rcases Nat.lt_or_ge k 3 with aq|aq
  .exact absurd aa (dQ.2 aq l)
  .exact aq
 |kZ=>rw[aa]at ak;exact ak.elim
theorem asD{kv pv:V}{klen np i:Nat}{most:Int}{t:T V}{E:Nat->fp (Option aE)}{R N:fp (Option aE)}(F:sZ x kind d1 d3 A0 ed B0 bR e5)(D:Ai x kind)(lR:V.same 40 κ.aI κ.aI=true)(jI:Ff e5 A0 bR kv klen)(Sc:oI pv=some (.int .i64 np))(h:kk W x kind A0 bR e5 g n a8 a m hd hH gi s aX aS dc M z)(ah:k<5)(v7:dc<300000000)(xK:np<=2000)(kJ:aS<=i)
 (n8:n2 t kv pv B0 A0 ed gi aS most i) (kd:aW t (.t 14)= .int .i64 k)
 (aF:∀t' g' n' js a' hW oA oP ns iO td' la' fE z',n<=n'->kk W x kind A0 bR e5 g' n' js a' hW oA oP ns iO td' la' (dc+4) fE z'->(s k≠ .off->Ar W s iO k z z' M fE)->(s k≠ .off\/i<np)->(la'=aS\/(i<np/\la'=aS+1))->n2 t' kv pv B0 A0 ed ns la' most i->N t' g' n' (some a'))
 (mJ:∀t',s k= .off->np<=i->n2 t' kv pv B0 A0 ed gi aS most i->E 1 t' g n (some a)):b9 lM bA Mo N E R t g n (some a):=by
 obtain⟨aD,aJ,bP,dB,dN,e4,ef,fR,fS⟩:=n8
 have iY:=h.iY
 have hlen:=xa (m:=m)
 have sC:(0<=(k:Int))=True:=eq_true I
 have Bp:((k:Int)<5)=True:=eq_true I
 have Ls:((k:Int)< ((5:Nat):Int))=True:=eq_true I
 have nE:=I1 (m:=m) ah
 obtain⟨lG,aBm⟩:=h.on ah
 have go:∀(t':T V),n2 t' kv pv B0 A0 ed gi aS most i->aW t' (.t 14)= .int .i64 k->aW t' (.t 15)= .ptr A0 (k*4)->s k≠ .off->b9 lM bA BR N E R t' g n (some a):=fun t' Od c6 cO aa=>by
  rcases aBm with⟨b,ad,aq⟩|⟨l,aA,aq⟩|aq
  .exact Tq F h aq ad I Od c6 cO fun t' g' n' js a' hW oA oP ns iO td' fE z' gJ fV fW sN=>aF _ _ _ _ _ _ _ _ _ _ _ _ _ _ gJ (fV.mono I) (fun _=>fW) (.inl aa) (.inl rfl) sN
  .exact Tp F h ⟨aq,ah⟩ aA I Od c6 cO fun t' g' n' js a' hW oA oP ns iO td' fE z' gJ fV fW sN=>aF _ _ _ _ _ _ _ _ _ _ _ _ _ _ gJ (fV.mono I) (fun _=>fW) (.inl aa) (.inl rfl) sN
  .exact absurd aq aa
 cases au:(m k).on with
 |true=>
  rw[au]at nE
  refine aL (eW (ab Mo.eq_1) (ab aoB.eq_1) (ab aaF.eq_1) (ab aoC.eq_1) (ab aav.eq_1)) (bs aD aJ bP dB dN e4 ef fR fS kd sC (d' Bp Ls iY nE hlen @Int.toNat_natCast)) ?_
  exact go _ ⟨bD aD,bD aJ,bD bP,bD dB,bD dN,bD e4,bD ef,bD fR,bD fS⟩ (bD kd) (dW) (lG.1 au)
 |false=>
  rw[au]at nE
  have aa:s k= .off:=Classical.byContradiction fun bp=>by rw[lG.2 bp]at au;cases au
  by_cases aC:i<np
  .have i1:((np:Int)<=(i:Int))=False:=eq_false I
   refine aL (gq (ab Mo.eq_1) (ab aoB.eq_1) (ab aaF.eq_1) (ab aoC.eq_1) (ab aav.eq_1) (ab aoD.eq_1) (ab aap.eq_1)) (bs aD aJ bP dB dN e4 ef fR fS kd sC (e_ Bp Ls iY nE hlen Sc i1 @Int.toNat_natCast)) ?_
   have ayX:∀(t2:T V),n2 t2 kv pv B0 A0 ed gi aS most i->aW t2 (.t 14)= .int .i64 k->aW t2 (.t 15)= .ptr A0 (k*4)->b9 lM bA Em (fun t g n a=>b9 lM bA BR N E R t g n a) E R t2 g n (some a):=fun t2 AQ VA VQ=>by
    rcases Nat.lt_or_ge k 3 with aq|aq
    .refine avA F h aq aa AQ VA VQ fun t3 fH cq atf fF jl axO b3 at6 gJ fV fW sN z3=>?_
     exact Tq F fV aq (ek _ _ _) I fW sN z3 fun t' g' n' js a' hW oA oP ns iO td' fE z' j6 iC zU wD=>aF _ _ _ _ _ _ _ _ _ _ _ _ _ _ I (iC.mono I) (fun bp=>absurd aa bp) (.inr aC) (.inl rfl) wD
    .refine avz F D lR jI h ⟨aq,ah⟩ aa I AQ VA VQ fun t3 fH cq atf fF jl axO nK at6 gJ fV fW sN z3=>?_
     exact Tp F fV ⟨aq,ah⟩ (ek _ _ _) I fW sN z3 fun t' g' n' js a' hW oA oP ns iO td' fE z' j6 iC zU wD=>aF _ _ _ _ _ _ _ _ _ _ _ _ _ _ I (iC.mono I) (fun bp=>absurd aa bp) (.inr aC) (.inr ⟨aC,rfl⟩) wD
   exact ayX _ ⟨bD aD,bD aJ,bD bP,bD dB,bD dN,bD e4,bD ef,bD fR,bD fS⟩ (bD kd) (dW)
  .have i1:((np:Int)<=(i:Int))=True:=eq_true I
   refine aL (gq (ab Mo.eq_1) (ab aoB.eq_1) (ab aaF.eq_1) (ab aoC.eq_1) (ab aav.eq_1) (ab aoD.eq_1) (ab aap.eq_1)) (bs aD aJ bP dB dN e4 ef fR fS kd sC (e_ Bp Ls iY nE hlen Sc i1 @Int.toNat_natCast)) ?_
   exact mJ _ aa I ⟨bD aD,bD aJ,bD bP,bD dB,bD dN,bD e4,bD ef,bD fR,bD fS⟩
end
section
variable{κ:fw}{W:kj κ}{x:hE κ}{kind d1 d3:Int}{A0 ed B0 bR:Nat}{e5 g:G}{n:Nat}{a8:List Int}{a:aE}{m:Nat->hO}{hd:Nat->List Nat}{hH:List Nat}{gi:V}{s:Nat->dM κ}{aX:List Int}{aS dc:Int}{M:Nat}{z:W.Z}{k:Nat}
structure Oa(e5:G)(A0 bR:Nat)(pv:V)(np:Nat):Prop where
 len:oI pv=some (.int .i64 np)
 ex:0<np->∃z0 Mj cap ro cells,pv= .slice z0 Mj np cap 1/\e5 z0=some (.al ro cells)/\z0<bR/\z0≠A0/\∀j,j<np->∃w,cells[Mj+j]? =some (.int .i64 w)
theorem avi(h:kk W x kind A0 bR e5 g n a8 a m hd hH gi s aX aS dc M z):sf m=true↔ ∃j,j<5/\s j≠ .off:=by
 have a5:=(h.on (k:=0) I).1
 have J:=(h.on (k:=1) I).1
 have U:=(h.on (k:=2) I).1
 have aq:=(h.on (k:=3) I).1
 have aK:=(h.on (k:=4) I).1
 simp only[sf,Bool.or_eq_true]
 constructor
 .rintro(e|e|e|e|e)
  .exact⟨0,I,a5.1 e⟩
  .exact⟨1,I,J.1 e⟩
  .exact⟨2,I,U.1 e⟩
  .exact⟨3,I,aq.1 e⟩
  .exact⟨4,I,aK.1 e⟩
 .rintro⟨j,ax,e⟩
  match j,ax with
  |0,_=>exact .inl (a5.2 e)
  |1,_=>exact .inr (.inl (J.2 e))
  |2,_=>exact .inr (.inr (.inl (U.2 e)))
  |3,_=>exact .inr (.inr (.inr (.inl (aq.2 e))))
  |4,_=>exact .inr (.inr (.inr (.inr (aK.2 e))))
def As(W:kj κ)(s:Nat->dM κ)(z:W.Z)(M i most:Nat):Prop:=(∃j,j<5/\s j≠ .off)->∃j:Nat,j<5/\s j≠ .off/\¬jv W z (s j)/\5*M+((j+5-i%5)%5)+i<=most
theorem Tv{i np most:Nat}{iO:Nat->dM κ}{z':W.Z}{fE:Nat}(ad:∀{M:Nat},(∃j,j<5/\iO j≠ .off)->∃j,j<5/\iO j≠ .off/\¬jv W z' (iO j))(k3:np<=i->As W s z M i most)(lG:np<=i->s (i%5)≠ .off/\Ar W s iO (i%5) z z' M fE)(vD:i<np->5*fE+4+np<=most)(aC:np<=i+1):As W iO z' fE (i+1) most:=by
 intro F_
 rcases Nat.lt_or_ge i np with h|h
 .obtain⟨j,ax,c6,cO⟩:=ad (M:=0) F_
  exact⟨j,ax,c6,cO,by have:=vD h;omega⟩
 .obtain⟨aa,hQ⟩:=lG h
  by_cases hw:jv W z (s (i%5))
  .obtain⟨rfl,Sj⟩:=hQ.1 hw
   obtain⟨j,ax,c6,cO,fc⟩:=k3 h ⟨i%5,I,aa⟩
   have bp:j≠i%5:=fun e=>by rw[e]at cO;exact cO hw
   exact⟨j,ax,(Sj j ax).1.2 c6,fun h=>cO ((Sj j ax).2.1 h),I⟩
  .have:=hQ.2 hw
   obtain⟨GX,aKQ,c6,cO,fc⟩:=k3 h ⟨i%5,I,aa⟩
   obtain⟨j,ax,c6,cO⟩:=ad (M:=0) F_
   exact⟨j,ax,c6,cO,I⟩
theorem aDC{i most:Nat}(k3:As W s z M i most)(aa:s (i%5)= .off):As W s z M (i+1) most:=by
 intro F_
 obtain⟨j,ax,c6,cO,fc⟩:=k3 F_
 have bp:j≠i%5:=fun e=>c6 (by rw[e];exact aa)
 exact⟨j,ax,c6,cO,I⟩
theorem kk.Ib{n':Nat}(h:kk W x kind A0 bR e5 g n a8 a m hd hH gi s aX aS dc M z)(az:n<=n'):kk W x kind A0 bR e5 g n' a8 a m hd hH gi s aX aS dc M z:=
 ⟨h.jk,h.de,by have:=h.dF;omega,h.lt.mono az,h.iY,h.q6,fun k ah y ai=>by have:=h.eI k ah y ai;omega,h.AL,h.z7,fun y ai=>⟨by have:=(h.iu y ai).1;omega,(h.iu y ai).2⟩,h.mq⟩
def N6(W:kj κ)(x:hE κ)(kind:Int)(A0 bR ed B0:Nat)(e5:G)(kv pv:V)(np most n:Nat)(eX:Nat)(t:T V)(ba:G)(aT:Nat)(kP:Option aE):Prop:=
 ∃(a:aE) (i:Nat) (a8:List Int) (m:Nat->hO) (hd:Nat->List Nat) (hH:List Nat) (gi:V) (s:Nat->dM κ) (aX:List Int) (aS:Int) (M:Nat) (z:W.Z),kP=some a/\eX=most+1-i/\i<=most+1/\n<=aT/\kk W x kind A0 bR e5 ba aT a8 a m hd hH gi s aX aS (4*i) M z/\aS<=i/\(np<=i->As W s z M i most)/\n2 t kv pv B0 A0 ed gi aS most i
theorem JM{kv pv:V}{np most i aT:Nat}{t:T V}{E:Nat->fp (Option aE)}{R:fp (Option aE)}(aC:i<=most)(Gu:most<50000000)(az:aT<=n)(h:kk W x kind A0 bR e5 g n a8 a m hd hH gi s aX aS (4*i+4) M z)(kJ:aS<=i+1)(hQ:np<=i+1->As W s z M (i+1) most)(n8:n2 t kv pv B0 A0 ed gi aS most i):
 b9 lM bA Nd (fun t g n kP=>∃a9,a9<most+1-i/\N6 W x kind A0 bR ed B0 e5 kv pv np most aT a9 t g n kP) E R t g n (some a):=by
 obtain⟨f1,f2,f3,f7,f8,f10,f11,f12,f13⟩:=n8
 have aIX:IntKind.wrap .i64 ((i:Int)+1)=((i+1:Nat):Int):=by rw[wrap_i64 I I];omega
 refine aL (ab Nd.eq_1) (ji f1 f2 f3 f7 f8 f10 f11 f12 f13 aIX) ?_
 exact⟨most+1- (i+1),I,a,i+1,a8,m,hd,hH,gi,s,aX,aS,M,z,rfl,rfl,I,az,h.mono I,I,hQ,⟨bD f1,bD f2,bD f3,bD f7,bD f8,bD f10,bD f11,bD f12,dW⟩⟩
theorem aC3{kv pv:V}{klen np most:Nat}{t:T V}{E:Nat->fp (Option aE)}{R N:fp (Option aE)}(F:sZ x kind d1 d3 A0 ed B0 bR e5)(D:Ai x kind)(lR:V.same 40 κ.aI κ.aI=true)(jI:Ff e5 A0 bR kv klen)(p3:Oa e5 A0 bR pv np)(xK:np<=2000)(Gu:most<50000000)(zf:np<=most)
 (vD:5*(5*(W.D+(κ.e8.toNat*(W.D+2)+1)))+4+np<=most) (h:kk W x kind A0 bR e5 g n a8 a m hd hH gi s aX 0 0 M z) (uI:∀j,j<5->s j= .off)
 (n8:n2 t kv pv B0 A0 ed gi 0 most 0)
 (aF:∀t' g' n' js a' hW oA oP ns iO td' la' oG fE z',n<=n'->kk W x kind A0 bR e5 g' n' js a' hW oA oP ns iO td' la' 300000000 fE z'->(∀j,j<5->iO j= .off)->n2 t' kv pv B0 A0 ed ns la' most oG->N t' g' n' (some a')):b9 lM bA Mp N E R t g n (some a):=by
 refine dl (ab Mp.eq_1) ?_
 refine qp (N6 W x kind A0 bR ed B0 e5 kv pv np most n) (most+1) ⟨a,0,a8,m,hd,hH,gi,s,aX,0,M,z,rfl,I,I,Nat.le_refl _,h,I,fun _ ⟨j,ax,bp⟩=>absurd (uI j ax) bp,n8⟩ ?_
 rintro eX t2 ba aT kP ⟨b7,i,NZ,pC,QU,asx,asE,s2,asw,SO,Fh,ny,rfl,rfl,aC,cB,U,kJ,hQ,AQ⟩
 have ayW:=AQ
 obtain⟨aD,aJ,bP,dB,dN,e4,ef,fR,fS⟩:=ayW
 have hlen:=p3.len
 have uH:(i:Int).tmod 5=((i%5:Nat):Int):=by
  rw[Int.tmod_eq_emod_of_nonneg I];omega
 by_cases xz:i<=most
 .have c1:((i:Int)<=(most:Int))=True:=eq_true I
  by_cases p8:i<np
  .have c2:((i:Int)< (np:Int))=True:=eq_true I
   obtain⟨z0,Mj,cap,ro,cells,rfl,aAI,iK,aAF,bh⟩:=p3.ex I
   obtain⟨w,hw⟩:=bh i p8
   have aAJ:ba z0=some (.al ro cells):=by rw[U.mq z0 iK aAF];exact aAI
   have i0:(0<=(i:Int))=True:=eq_true I
   refine aL (ji (ab Pw.eq_1) (ab aow.eq_1) Et.eq_1 (ab aan.eq_1) (ab aaH.eq_1) (ab aoy.eq_1) (ab aaG.eq_1) (ab aoz.eq_1) (ab aao.eq_1) (ab aoA.eq_1)) (bs aD aJ bP dB dN e4 ef fR fS c1 c2 (d' @lK uH aAJ hw i0 @Int.toNat_natCast)) ?_
   refine aEA fun cq r iJ ak=>?_
   intro gB
   obtain⟨k,rfl⟩:∃k:Nat,r=k:=⟨r.toNat,I⟩
   refine dl aee.eq_1 ?_
   refine asD (k:=k) (i:=i) (np:=np) (most:=most) F D lR jI hlen (U.Ib iJ) I I xK kJ ⟨bD aD,bD aJ,bD bP,bD dB,bD dN,bD e4,bD ef,bD fR,bD fS⟩ (dW) (fun t' g' n' js a' hW oA oP ns iO td' la' fE z' gJ fV fW sN z3 Eu=>?_) (fun t' c6 cO _=>absurd cO I)
   refine JM xz Gu I (fV.mono I) I (Tv (s:=s2) (z:=ny) (M:=Fh) (np:=np) fV.jk.mover hQ (fun h=>absurd h I) (fun _=>?_)) Eu
   have:=fV.jk.ix
   omega
  .have c2:((i:Int)< (np:Int))=False:=eq_false I
   have hm:=hQ I
   refine aL (aN (ab Pw.eq_1) (ab aow.eq_1)) (bs aD aJ bP dB dN e4 ef fR fS c1 c2 hlen) ?_
   refine avF U.iY fun cq iJ=>?_
   intro gB
   cases au:sf pC with
   |false=>
    refine aL (aN Et.eq_1 (ab aan.eq_1)) au ?_
    refine aF _ ba cq NZ b7 pC QU asx asE s2 asw SO i Fh ny I ((U.Ib iJ).mono I) (fun j ax=>Classical.byContradiction fun bp=>?_) ⟨bD aD,bD aJ,bD bP,bD dB,bD dN,bD e4,bD ef,bD fR,bD fS⟩
    rw[(avi U).2 ⟨j,ax,bp⟩]at au;cases au
   |true=>
    refine aL (gq Et.eq_1 (ab aan.eq_1) (ab aaH.eq_1) (ab aoy.eq_1) (ab aaG.eq_1) (ab aoz.eq_1) (ab aao.eq_1)) (bs au aD aJ bP dB dN e4 ef fR fS c1 (cw c2 hlen uH)) ?_
    refine asD (k:=i%5) (i:=i) (np:=np) (most:=most) F D lR jI hlen (U.Ib iJ) I I xK kJ ⟨bD aD,bD aJ,bD bP,bD dB,bD dN,bD e4,bD ef,bD fR,bD fS⟩ (dW) (fun t' g' n' js a' hW oA oP ns iO td' la' fE z' gJ fV fW sN z3 Eu=>?_) (fun t' c6 cO fc=>?_)
    .refine JM xz Gu I (fV.mono I) I (Tv (s:=s2) (z:=ny) (M:=Fh) (np:=np) fV.jk.mover hQ (fun h=>?_) (fun h=>absurd h I)) Eu
     have aa:=sN.resolve_right I
     exact⟨aa,fW aa⟩
    .simp only[aBR,if_true]
     exact JM xz Gu I ((U.Ib iJ).mono I) I (fun _=>aDC hm c6) fc
 .have c1:((i:Int)<=(most:Int))=False:=eq_false I
  refine aL (cc (ab Pw.eq_1) (ab aow.eq_1) Et.eq_1 (ab aan.eq_1)) (kw aD aJ bP dB dN e4 ef fR fS c1 hlen) ?_
  refine aF _ ba aT NZ b7 pC QU asx asE s2 asw SO i Fh ny I (U.mono I) (fun j ax=>Classical.byContradiction fun bp=>?_) ⟨bD aD,bD aJ,bD bP,bD dB,bD dN,bD e4,bD ef,bD fR,bD fS⟩
  obtain⟨_,_,_,_,q⟩:=hQ I ⟨j,ax,bp⟩
  omega
end
end Go.Proofs.Run
namespace Go.Proofs.Run
open Go Go.Abs
set_option maxRecDepth 100000
set_option maxHeartbeats 4000000
section
theorem SK{α:Type}{A:h3 α}{g:G}{n:Nat}{b:α}{yt:cj α}(ah:yt (.bool true) g n b):aR A bA 6 [] g n b yt:=by
 unfold aR
 intro σ aa
 refine F5 (v:=.bool true) (σ':=σ) ?_ ⟨g,n,b,Nat.le_refl n,aa,ah⟩
 simp only[yc,Lx,if_true,if_neg (show¬(6=330)by decide),if_neg (show¬(6=180)by decide)]
attribute [local irreducible] b9 cI cr cg aR
variable{κ:fw}{W:kj κ}{x:hE κ}{kind d1 d3:Int}{A0 ed B0 bR:Nat}{e5 g:G}{n:Nat}{a8:List Int}{a:aE}{m:Nat->hO}{hd:Nat->List Nat}{hH:List Nat}{gi:V}{s:Nat->dM κ}{aX:List Int}{aS dc:Int}{M:Nat}{z:W.Z}{k:Nat}
theorem au5{kv pv:V}{most i:Int}{t:T V}{E:Nat->fp (Option aE)}{R N:fp (Option aE)}(F:sZ x kind d1 d3 A0 ed B0 bR e5)
 (J4:((5*(W.D+(κ.e8.toNat*(W.D+2)+1)):Nat):Int)<=4*(500+1)*(10*d1+10*d3+70)) (h:kk W x kind A0 bR e5 g n a8 a m hd hH gi s aX aS 300000000 M z) (uI:∀j,j<5->s j= .off) (n8:n2 t kv pv B0 A0 ed gi aS most i)
 (vD:∀t' g' n' kP,n<=n'->aW t' (.t 6)= .bool true->R t' g' n' kP):b9 lM bA Mm N E R t g n (some a):=by
 obtain⟨aD,aJ,bP,dB,dN,e4,ef,fR,fS⟩:=n8
 have iY:=h.iY
 have hlen:=xa (m:=m)
 have yV:=F.nq.2.2
 have nc:=h.dF
 have gA:a8=[]:=by
  cases a8 with
  |nil=>rfl
  |cons y l=>
   obtain⟨j,ax,_,bp⟩:=(h.jk.ins y).1 aM
   exact absurd (uI j ax) bp
 subst gA
 refine aL (cw (ab Mm.eq_1) (ab aoZ.eq_1) (ab aaL.eq_1)) (jO aD aJ bP dB dN e4 ef fR fS) ?_
 refine qp (fun eX t2 ba aT kP=>∃j,eX=5-j/\j<=5/\n<=aT/\kP=some a/\ba=g/\n2 t2 kv pv B0 A0 ed gi aS most i/\aW t2 (.t 18)= .int .i64 j) 5 ⟨0,rfl,I,Nat.le_refl _,rfl,rfl,⟨bD aD,bD aJ,bD bP,bD dB,bD dN,bD e4,bD ef,bD fR,bD fS⟩,bD @Int.natCast_zero⟩ ?_
 clear aD aJ bP dB dN e4 ef fR fS
 rintro eX t2 ba aT kP ⟨j,rfl,ax,cB,rfl,rfl,AQ,JA⟩
 obtain⟨aD,aJ,bP,dB,dN,e4,ef,fR,fS⟩:=AQ
 by_cases bx:j<5
 .have c1:((j:Int)<5)=True:=eq_true I
  have c2:(0<=(j:Int))=True:=eq_true I
  have eu:((j:Int)< ((5:Nat):Int))=True:=eq_true I
  have dA:IntKind.wrap .i64 ((j:Int)+1)=((j+1:Nat):Int):=by rw[wrap_i64 I I];omega
  have lG:(m j).on=false:=by
   cases au:(m j).on with
   |false=>rfl
   |true=>exact absurd (uI j bx) ((h.on bx).1.1 au)
  have nE:=I1 (m:=m) bx
  rw[lG]at nE
  refine aL (gq (ab Px.eq_1) (ab ao0.eq_1) (ab aaI.eq_1) (ab aaK.eq_1) (ab ao2.eq_1) (ab aaJ.eq_1) (ab ao4.eq_1)) (bs aD aJ bP dB dN e4 ef fR fS JA c1 (gq c2 eu dA iY nE hlen @Int.toNat_natCast)) ?_
  exact⟨5- (j+1),I,j+1,rfl,I,I,⟨bD aD,bD aJ,bD bP,bD dB,bD dN,bD e4,bD ef,bD fR,bD fS⟩,rfl⟩
 .have c1:((j:Int)<5)=False:=eq_false I
  have vF:ba ed=some (.al false [.ptr κ.an 0,.ptr κ.ar 0,.ptr x.X 0,.int .i64 kind,.int .i64 d1,.int .i64 1,.int .i64 d3,.int .i64 0]):=by
   have:=F.nq.1;rw[h.mq ed this.1 this.2];exact F.S
  refine aL (eW (ab Px.eq_1) (ab ao0.eq_1) (ab aaI.eq_1) (ab aae.eq_1) (ab ao5.eq_1)) (bs aD aJ bP dB dN e4 ef fR fS JA c1 vF) ?_
  refine dO fun gB=>qj (au9 (W:=W) (x:=x) F.dQ F.aH (F.uu h.mq) gB h.jk uI I J4 fun qK ik gx SL NJ vy nW TB Pn aKi Ah aLu aJK sO v0 sr Gq rP Bk ayR=>?_)
  intro jN
  obtain⟨hM,mh,zs⟩:=rP
  obtain⟨iM,jj,uO,uP⟩:=Gq
  obtain⟨v1,v2,fm,v4,B2,v6⟩:=mh.g6
  obtain⟨⟨em,pV⟩,yX,⟨sj,pU⟩,aA7,gO,aA9,RO,aAc⟩:=ayR.facts
  refine aL (aN aei.eq_1 (ab aad.eq_1)) (e_ iM jj uO uP v1 v2 fm v4) ?_
  obtain⟨oY,n7⟩:∃G,G=a1 (a1 qK ik (bt.al false [V.int IntKind.i64 0,V.int IntKind.i64 0,V.int IntKind.u64 0,V.int IntKind.i64 0,V.br,V.int IntKind.u64 0,V.int IntKind.i64 0,V.br,V.br,V.int IntKind.i64 0,V.int IntKind.u64 0])) ik (bt.al false [V.int IntKind.i64 TB,V.int IntKind.i64 0,V.int IntKind.u64 0,V.int IntKind.i64 0,V.br,V.int IntKind.u64 0,V.int IntKind.i64 0,SL,NJ,V.int IntKind.i64 Pn,V.int IntKind.u64 vy]):=⟨_,rfl⟩
  rw[<-n7]
  have n4:oY ik=some (.al false [V.int IntKind.i64 TB,V.int IntKind.i64 0,V.int IntKind.u64 0,V.int IntKind.i64 0,V.br,V.int IntKind.u64 0,V.int IntKind.i64 0,SL,NJ,V.int IntKind.i64 Pn,V.int IntKind.u64 vy]):=by rw[n7];exact dX
  have n5:∀y,y<ik->oY y=qK y:=fun y ai=>by rw[n7];exact bc (ag (I:y<ik))
  have CQ:bm oY (ik+1):=by rw[n7];exact(jN.new (Nat.le_refl _) _).a1 I _
  clear n7
  have De:h6 oY 1 gi aX.length (words aX) hH:=h.z7.b6 fun y ai=>by have:=(h.iu y ai).1;rw[n5 y I,sr y I]
  have Df:h6 oY 1 NJ (words nW).length (words nW) hM:=mh.Nm.b6 fun y ai=>n5 y (mh.lt jN y ai)
  have aA':=aA9
  rw[List.length_append]at aA'
  obtain⟨E2,xq,LW,H9,Di,R3,to,vS,Bg,DA⟩:=De.append CQ (bytes:=8) Df.src I (E7 _) (by rw[iS];omega) I
  have y0:xq ed=some (.al false [.ptr κ.an 0,.ptr κ.ar 0,.ptr x.X 0,.int .i64 kind,.int .i64 d1,.int .i64 1,.int .i64 d3,.int .i64 0]):=by
   have:=F.nq.1
   rw[vS ed I (fun hm=>by have:=(h.iu _ hm).1;omega),n5 ed I,sr ed I];exact vF
  have DL:words aX++words nW=words (aX++nW):=by simp[words]
  rw[iS,DL,<-List.length_append]at to
  have tl:=to.oI
  refine aL (cc (ab ao6.eq_1) (ab aac.eq_1) (ab ao8.eq_1) (ab aaa.eq_1)) (kw aD aJ bP dB dN e4 ef fR fS n4 Di) ?_
  obtain⟨K2,vI⟩:gx.queue=[]/\gx.m.ry=0:=⟨yX.quiet sj,yX.dc⟩
  refine qp (fun eX t3 fH cq kP=>∃j,eX=(aX++nW).length-j/\j<=(aX++nW).length/\LW<=cq/\kP=some gx/\fH=xq/\aW t3 (.t 8)= .ptr ed 0/\aW t3 (.t 10)=E2/\aW t3 (.t 11)= .int .u64 aS/\aW t3 (.t 21)= .int .i64 j) (aX++nW).length ⟨0,rfl,I,Nat.le_refl _,rfl,rfl,bD dN,dW,bD ef,bD @Int.natCast_zero⟩ ?_
  clear aD aJ bP dB dN e4 ef fR fS JA
  rintro eX t3 fH cq kP ⟨j,rfl,ax,iJ,rfl,rfl,dN,e4,ef,JB⟩
  by_cases cp:j< (aX++nW).length
  .obtain⟨lb,o,cap,cells,rfl,oa,mL,aK1,aBp,_⟩:=to.ld I
   have c1:((j:Int)< (((aX++nW).length:Nat):Int))=True:=eq_true I
   have c2:(0<=(j:Int))=True:=eq_true I
   have dA:IntKind.wrap .i64 ((j:Int)+1)=((j+1:Nat):Int):=by rw[wrap_i64 I I];omega
   have qP:∀q,q< (aX++nW).length->cells[o+q]? =some (.int .u64 ((aX++nW).getD q 0)):=fun q av=>by
    refine I9 (n:=(aX++nW).length) (z:=1) ?_
    rw[<-aBp]
    exact Ic (by rw[List.getD_eq_getElem?_getD,List.getElem?_eq_getElem av];rfl)
   have hv:=aA7 ((aX++nW).getD j 0) (by rw[List.getD_eq_getElem?_getD,List.getElem?_eq_getElem cp];exact List.getElem_mem cp)
   have Km:=qP j cp
   have RQ:=DA _ _ oa
   have me:(aX++nW).getD j 0∉(aX++nW).take j:=fun hm=>by
    obtain⟨q,av,e⟩:=List.getElem_of_mem hm
    have fT:q<j:=by simp only[List.length_take]at av;omega
    rw[List.getElem_take,List.getD_eq_getElem?_getD,List.getElem?_eq_getElem cp]at e
    have:=(List.getElem_inj gO (h₀:=I) (h₁:=cp)).1 e
    omega
   generalize(aX++nW).getD j 0=v at hv Km me
   have oc:q9 1 (.slice lb o (aX++nW).length cap 1) none (some (.int .i64 (j:Int)))=some (.slice lb o j cap 1):=by
    simp[q9,ix];omega
   have d1:(v<1)=False:=eq_false I
   have d2:(aS<v)=False:=eq_false I
   refine aL (eW (ab Py.eq_1) (ab ao9.eq_1) (ab aaM.eq_1) (ab aaO.eq_1) (eh ao'.eq_1 23 rfl rfl)) (bs dN e4 ef JB c1 c2 dA oa Km d1 d2 (cc oc @lK @KZ @Int.toNat_natCast)) ?_
   have nf:((aX++nW).take j).length=j:=by rw[List.length_take];omega
   have lA:aR lM bA 18 [.slice lb o j cap 1,.int .u64 v] fH (cq+23) (some gx) (fun u g' n' a'=>u= .bool false/\g'=fH/\a'=some gx/\cq+23<=n'):=by
    have:=aIq (A:=lM) (g:=fH) (n:=cq+23) (a:=some gx) (lb:=lb) (o:=o) (cap:=cap) (ro:=false) (cells:=cells) (xs:=(aX++nW).take j) (v:=v) (K:=fun u g' n' a'=>u= .bool false/\g'=fH/\a'=some gx/\cq+23<=n') I oa (fun q av=>?_) (fun dD v3=>⟨?_,rfl,rfl,v3⟩)
    .rw[nf]at this;exact this
    .rw[nf]at av
     rw[qP q I]
     simp only[List.getD_eq_getElem?_getD,List.getElem?_take,if_pos av]
    .rw[decide_eq_false me]
   refine aR.mono lA ?_
   rintro u ko dD mz v3 ⟨rfl,rfl,rfl,aAv⟩
   intro p_
   refine aL (cw aej.eq_1 (ab aaN.eq_1) (ab apa.eq_1)) (bs dN e4 ef JB c1 c2 dA oa Km d1 d2 @Int.toNat_natCast) ?_
   exact⟨_,I,j+1,rfl,I,I,rfl⟩
  .have c1:((j:Int)< (((aX++nW).length:Nat):Int))=False:=eq_false I
   refine aL (eW (ab Py.eq_1) (ab ao9.eq_1) (ab aaM.eq_1) (ab aab.eq_1) (ab aor.eq_1)) (gq dN e4 ef JB c1 tl y0) ?_
   refine qj (aJe pV fun kh DD=>?_)
   intro xE
   rw[K2]
   refine aL aec.eq_1 (cw dN y0 @Int.natCast_zero) ?_
   refine qj (avy em fun nl R2=>?_)
   intro A6
   rw[vI]
   refine aL aeb.eq_1 (aN dN y0) ?_
   refine SK ?_
   intro zb
   refine aL aea.eq_1 dN ?_
   refine vD _ _ _ _ I ?_
   exact dW
end
end Go.Proofs.Run
namespace Go.Proofs.Run
open Go Go.Abs
attribute [local irreducible] b9 cI cr cg aR
set_option maxRecDepth 100000
set_option maxHeartbeats 4000000
section
variable{κ:fw}{W:kj κ}{x:hE κ}{kind d1 d3:Int}{A0 B0:Nat}{g:G}{n:Nat}{a:aE}{z:W.Z}
structure ui(k:IntKind)(g:G)(A0 n:Nat)(v:V)(len:Nat):Prop where
 cF:oI v=some (.int .i64 len)
 ex:0<len->∃b o cap ro cells,v= .slice b o len cap 1/\g b=some (.al ro cells)/\b<n/\b≠A0/\∀j,j<len->∃w,cells[o+j]? =some (.int k w)/\(k= .u64->dZ w)
theorem aeL{kv pv:V}{klen np R:Nat}{t:T V}{E:Nat->fp (Option aE)}{N:fp (Option aE)}(dQ:kind=4\/kind=5)(aH:(0<=d1/\d1<=64)/\(0<=d3/\d3<=32))(D:Ai x kind)(lR:V.same 40 κ.aI κ.aI=true)
 (aD:aW t (.t 1)=kv) (aJ:aW t (.t 2)=pv) (bP:aW t (.t 3)= .ptr B0 0) (dB:aW t (.t 7)= .slice A0 0 5 5 4) (aw9:aW t (.t 52)= .bN [.agg [.ptr κ.an 0,.ptr κ.ar 0,.ptr x.X 0,.int .i64 kind,.int .i64 d1,.int .i64 1,.int .i64 d3,.int .i64 0],.bool true])
 (ap:bm g n) (iY:g A0=some (.al false (gV fun _=>⟨.nil,.nil,false⟩))) (cy:g B0=some (.al false [.int .i64 kind,.int .i64 d1,.int .i64 1,.int .i64 d3,.int .i64 0])) (cC:ey κ.dv g) (jJ:∀q∈κ.dv,q.1≠A0) (jI:ui .u64 g A0 n kv klen) (p3:ui .i64 g A0 n pv np) (e0:0<klen) (xK:np<=2000)
 (zd:hp W [] a (fun _=>.off) [] 0 0 0 z) (ayU:4*(10*(d1+d3+3)+1)*(10*d1+10*d3+70)=(R:Int)) (aKC:R<5000000) (aKD:5*(5*(W.D+(κ.e8.toNat*(W.D+2)+1)))+4<=5*R)
 (J4:((5*(W.D+(κ.e8.toNat*(W.D+2)+1)):Nat):Int)<=4*(500+1)*(10*d1+10*d3+70))
 (aF:∀t' g' n' kP,n<=n'->aW t' (.t 6)= .bool true->N t' g' n' kP):cI lM bA MR (fun t g n a=>b9 lM bA Mn N E N t g n a) t g n (some a):=by
 have aCt:=ap _ _ iY
 have aCu:=ap _ _ cy
 have ayz:B0≠A0:=fun e=>by rw[e,iY]at cy;have:=congrArg (Option.map fun c=>match c with|bt.al _ l=>l.length|_=>0) cy;simp[gV,hO.l]at this
 have rK:=p3.cF
 have NK:IntKind.wrap .i64 (d1+d3)=d1+d3:=wrap_i64 I I
 have yj:IntKind.wrap .i64 (d1+d3+3)=d1+d3+3:=wrap_i64 I I
 have NM:IntKind.wrap .i64 (10*(d1+d3+3))=10*(d1+d3+3):=wrap_i64 I I
 have wd:IntKind.wrap .i64 (5*(R:Int))=5*(R:Int):=wrap_i64 I I
 have aI4:IntKind.wrap .i64 ((np:Int)+5*(R:Int))=((np+5*R:Nat):Int):=by rw[wrap_i64 I I];omega
 refine aL (ji MR.eq_1 (ab Mn.eq_1) (ab ao7.eq_1) (ab aaf.eq_1) (ab aaj.eq_1) (ab aos.eq_1) (ab aai.eq_1) (ab aot.eq_1) (ab aah.eq_1) (ab aou.eq_1)) (bs aD aJ bP dB aw9 iY cy rK NK yj NM (aN (ag (I:A0<n)) (ag (I:B0<n)))) ?_
 obtain⟨vl,AP⟩:∃G,G=a1 (a1 (a1 g n (bt.al false [V.nil,V.nil,V.nil,V.int IntKind.i64 0,V.int IntKind.i64 0,V.int IntKind.i64 0,V.int IntKind.i64 0,V.int IntKind.i64 0])) n (bt.al false [V.ptr κ.an 0,V.ptr κ.ar 0,V.ptr x.X 0,V.int IntKind.i64 kind,V.int IntKind.i64 d1,V.int IntKind.i64 1,V.int IntKind.i64 d3,V.int IntKind.i64 0])) (n+1) (bt.al false [V.int IntKind.i64 kind,V.int IntKind.i64 d1,V.int IntKind.i64 1,V.int IntKind.i64 d3,V.int IntKind.i64 0]):=⟨_,rfl⟩
 rw[<-AP]
 have ax2:vl n=some (bt.al false [V.ptr κ.an 0,V.ptr κ.ar 0,V.ptr x.X 0,V.int IntKind.i64 kind,V.int IntKind.i64 d1,V.int IntKind.i64 1,V.int IntKind.i64 d3,V.int IntKind.i64 0]):=by rw[AP];exact dX
 have ax1:vl (n+1)=some (bt.al false [V.int IntKind.i64 kind,V.int IntKind.i64 d1,V.int IntKind.i64 1,V.int IntKind.i64 d3,V.int IntKind.i64 0]):=by rw[AP];exact dX
 have ta:∀y,y<n->vl y=g y:=fun y ai=>by rw[AP];exact bc (ag (I:y<n))
 have aQ:bm vl (n+2):=by rw[AP];exact((ap.new (Nat.le_refl _) _).a1 I _).new I _
 clear AP
 have mC:∀q∈κ.dv,q.1<n:=fun q av=>ap _ _ (cC q av)
 refine aeP (db:=n+1) (ro:=false) (kind:=kind) (d2:=1) (d4:=0) aH.1 aH.2 I ax1 fun kh DD=>?_
 intro xE
 have F:sZ x kind d1 d3 A0 n B0 (n+2) vl:=⟨dQ,aH,fun q av=>by rw[ta _ (mC q av)];exact cC q av,fun q av=>⟨by have:=mC q av;omega,jJ q av⟩,ax2,by rw[ta B0 aCu];exact cy,⟨I,I⟩,⟨I,ayz⟩,I⟩
 have ayP:Ff vl A0 (n+2) kv klen:=by
  obtain⟨b,o,cap,ro,cells,J,U,aq,aK,bx⟩:=jI.ex e0
  exact⟨⟨b,o,cap,ro,cells,J,by rw[ta b aq];exact U,I,aK,fun j ax=>by obtain⟨w,c6,cO⟩:=bx j ax;exact⟨w,c6,cO rfl⟩⟩,e0⟩
 have ayT:Oa vl A0 (n+2) pv np:=⟨rK,fun a5=>by
  obtain⟨b,o,cap,ro,cells,J,U,aq,aK,bx⟩:=p3.ex a5
  exact⟨b,o,cap,ro,cells,J,by rw[ta b aq];exact U,I,aK,fun j ax=>by obtain⟨w,c6,_⟩:=bx j ax;exact⟨w,c6⟩⟩⟩
 have ayS:kk W x kind A0 (n+2) vl vl kh [] a (fun _=>⟨.nil,.nil,false⟩) (fun _=>[]) [] .br (fun _=>.off) [] 0 0 0 z:=
  ⟨zd,aM,I,xE,by rw[ta A0 aCt];exact iY,fun k _=>⟨rfl,rfl⟩,fun k _ y ai=>by simp at ai,fun i j _ _ _ y ai=>by simp at ai,.nil,fun y ai=>by simp at ai,fun _ _ _=>rfl⟩
 refine aL (cw aed.eq_1 (ab aag.eq_1) (ab aov.eq_1)) (gq aD aJ bP dB ayU wd aI4) ?_
 refine aC3 (np:=np) (most:=np+5*R) F D lR ayP ayT xK I I I ayS (fun _ _=>rfl) ⟨bD aD,bD aJ,bD bP,bD dB,dW,dW,bD @Int.natCast_zero,dW,bD @Int.natCast_zero⟩ fun t' g' n' js a' hW oA oP ns iO td' la' oG fE z' J U aq aK=>?_
 exact au5 F J4 U aq aK fun t2 ba aT kP c6 cO=>aF t2 ba aT kP I cO
end
end Go.Proofs.Run
namespace Go.Proofs.Run
open Go Go.Abs
theorem aDL{e b:Nat}(he:e<=64)(ad:b<=32):4*(10*((e:Int)+b+3)+1)*(10*e+10*b+70)=((4*((10*(e+b)+31)*(10*(e+b)+70)):Nat):Int)/\4*((10*(e+b)+31)*(10*(e+b)+70))<5000000/\
 5*(5*((14*e+20)+(b*(14*e+20+2)+1)))+4<=5*(4*((10*(e+b)+31)*(10*(e+b)+70)))/\((5*((14*e+20)+(b*(14*e+20+2)+1)):Nat):Int)<=4*(500+1)*(10*(e:Int)+10*b+70):=by
 have J:10*((e:Int)+b+3)+1=((10*(e+b)+31:Nat):Int):=I
 have U:10*(e:Int)+10*b+70=((10*(e+b)+70:Nat):Int):=I
 have c6:(10*(e+b)+31)*(10*(e+b)+70)<=991*1030:=Nat.mul_le_mul I I
 have cO:b*(14*e+20+2)<=(e+b)*(14*(e+b)+22):=Nat.mul_le_mul I I
 have fc:(10*(e+b))*(14*(e+b)+22)<=(10*(e+b)+31)*(2*(10*(e+b)+70)):=Nat.mul_le_mul I I
 have kR:31*(10*(e+b)+70)<=(10*(e+b)+31)*(10*(e+b)+70):=Nat.mul_le_mul I (Nat.le_refl _)
 have ea:b*(14*e+20+2)<=b*918:=Nat.mul_le_mul (Nat.le_refl _) I
 rw[Nat.mul_left_comm (10*(e+b)+31) 2]at fc
 rw[Nat.mul_assoc 10]at fc
 refine⟨?_,I,I,I⟩
 rw[J,U,Int.natCast_mul 4,Int.natCast_mul (10*(e+b)+31),<-Int.mul_assoc,show((4:Nat):Int)=4 from rfl]
theorem aDM{e:Nat}(he:e<=64):4*(10*((e:Int)+0+3)+1)*(10*e+10*0+70)=((4*((10*e+31)*(10*e+70)):Nat):Int)/\4*((10*e+31)*(10*e+70))<5000000/\
 5*(5*((e*(2*e+10)+1+2*e+20)+(1*((e*(2*e+10)+1+2*e+20)+2)+1)))+4<=5*(4*((10*e+31)*(10*e+70)))/\((5*((e*(2*e+10)+1+2*e+20)+(1*((e*(2*e+10)+1+2*e+20)+2)+1)):Nat):Int)<=4*(500+1)*(10*(e:Int)+10*0+70):=by
 have J:10*((e:Int)+0+3)+1=((10*e+31:Nat):Int):=I
 have U:10*(e:Int)+10*0+70=((10*e+70:Nat):Int):=I
 obtain⟨I0,Dg⟩:∃I0,I0=(10*e+31)*(10*e+70):=⟨_,rfl⟩
 obtain⟨Q,bO⟩:∃Q,Q=e*(2*e+10):=⟨_,rfl⟩
 have c6:I0<=1020730:=by
  have:(10*e+31)*(10*e+70)<=671*710:=Nat.mul_le_mul I I
  rw[Dg];exact Nat.le_trans this (by decide)
 have fc:(10*e)*(2*e+10)<=(10*e+31)*(2*(10*e+70)):=Nat.mul_le_mul I I
 have kR:31*(10*e+70)<=(10*e+31)*(10*e+70):=Nat.mul_le_mul I (Nat.le_refl _)
 have ea:e*(2*e+10)<=64*(2*e+10):=Nat.mul_le_mul he (Nat.le_refl _)
 rw[Nat.mul_left_comm (10*e+31) 2]at fc
 rw[Nat.mul_assoc 10]at fc
 rw[<-Dg,<-bO]at fc
 rw[<-Dg]at kR
 rw[<-bO]at ea
 have aq:4*(10*((e:Int)+0+3)+1)*(10*e+10*0+70)=((4*((10*e+31)*(10*e+70)):Nat):Int):=by
  rw[J,U,Int.natCast_mul 4,Int.natCast_mul (10*e+31),<-Int.mul_assoc,show((4:Nat):Int)=4 from rfl]
 refine⟨aq,?_⟩
 clear J U aq
 rw[<-Dg,<-bO]
 clear Dg bO
 refine⟨?_,?_,?_⟩
 .omega
 .omega
 .omega
