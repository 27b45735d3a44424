/- Part 8 of 9 of the proof of seisintop.TopPSO (theorem topPSO.card, at the end of the last part), its names and blanks shortened by a program to fit a claim's bound; it holds the texts Vc Vd Ve Vf Qf Qg Qh Qi Td Qj Qk Ql Qm Qn Qo Qp Qq Xa Xb Xc Xf Xd Xe, one behind the other. -/
import Derived.Test.YtilhngjecfdgpaaGreatDoorTg
set_option linter.all false
set_option linter.defProp false
set_option linter.unusedVariables false
set_option linter.unusedSimpArgs false
set_option maxRecDepth 100000
set_option maxHeartbeats 16000000
namespace Go.Proofs.YtilhngjecfdgpaaGreatDoor
open Go.RowKit Go.Shelf Go.Proofs.Tryz
section
attribute [local irreducible] Code.wp wpList Oper.wp wpQuiet
def NK{P:Program}{ops}{Q}{rest}{a}{w}{d}{t tp}{x}{ps}{af}{e}{z:Value}{n bytes:Nat}{G}
 (b:(P.info? e).map (fun i=>(i.zero,i.size,i.bytes))=(some z,n,bytes))(c:P.underlying t=some (.slice e))(g:G.size=n)(j:0<n)(l:n<=2^24)(f:a.eval x= .agg G)
 (h:wpList P ops Q rest (a.put d (.slice w 1 1)) (w.alloc (.cells G e))):wpList P ops Q (Oper.mk d (.buildSlice t 1 #[(0,x)]) tp ps af none::rest) a w:=by
 have⟨g,b,j,l,m⟩:=eQ b;exact Kx rfl t x rfl e G g z f c b j (by omega) (by omega) (by omega) h
def row_one{W:World}{e}{n}{G}(a:G.size=n)(base:Nat)(b:base<=W):(W.alloc (.cells G e)).ownsRow base e n (.slice W 1 1) 1 G.toList:=
 ⟨by grind,.inr ⟨W,1,G,rfl,b,jZ W _,av _,by unfold maxLen;omega,by omega,by rw[Nat.one_mul,<-a,<-ML,nH]⟩⟩
def aeg(A B)(n c m d)(w):(Instr.build 67 #[(0,.slice A n c),(1,.slice B m d)]).run prog w= .ok (.agg #[.slice A n c,.slice B m d,nS]) w:=by kernel_rfl
def VJ(w):(Instr.build 170 #[(0,.int .i64 (-1))]).run prog w= .ok (.agg #[.int .i64 (-1),.int .u8 0,.bool false,.int .u8 0]) w:=by kernel_rfl
def Zs:(prog.info? 63).map (·.size)=some 1:=by kernel_rfl
def abK:(prog.info? 64).map (·.size)=some 1:=by kernel_rfl
def abl:(prog.info? 65).map (·.size)=some 1:=by kernel_rfl
def An(a b c)(e:a.oneCell'=true)(f:b.oneCell'=true)(g:c.oneCell'=true)(i):(eT a b c i).oneCell'=true:=by unfold eT;split;exact e;split;exact f;exact g
def TQ(a b c:Value):Prop:=∀i,(eT a b c i).oneCell'=true
def acz(a b c v)(i):aU (eT a b c) 0 v i=eT v b c i:=by unfold aU eT;split<;>rfl
def afE(a b c v)(i):aU (eT a b c) 1 v i=eT a v c i:=by
 unfold aU eT
 grind
def Z6(a b c v)(i)(e:i<3):aU (eT a b c) 2 v i=eT a b v i:=by
 unfold aU eT
 grind
def apart{W:World}{b1 b2 n1 n2}{e1 e2}{s1 s2}{v1 v2}{x1 x2}(a:W.ownsRow b1 e1 s1 v1 n1 x1)(b:W.ownsRow b2 e2 s2 v2 n2 x2)(c:e1≠e2):v1.ownBlock=none\/v1.ownBlock≠v2.ownBlock:=N7 a b c
def rq.Wj{w1 W W' W''}{p}{FB mb aJ}{L}{E E':List Nat}{vl vk ve v'}(h:rq w1 W p FB mb aJ L E vl vk ve)(g:W.grownBy W' ve.ownBlock)(o:W'.ownsRow w1 3 1 v' E' (nums E'))(F:aj W'' FB 67 3 (eT vl vk v'))(i:aj W' FB 67 3 (eT vl vk ve))(f:W'.grownBy W'' (some FB)):rq w1 W'' p FB mb aJ L E' vl vk v':=by
 have⟨ks,r⟩:=h.k;have⟨D,u,H,I⟩:=h.m;have w:=h.l.K g (apart h.l h.e (dr rfl));have y:=r.K g (apart r h.e (dr rfl));have A:=u.K g (xJ h.e u);have C:=h.y.b g h.y.size (fun j e=>(h.e.lt j e).1);refine⟨F,h.fl,w.K f (.inr (ed w i (dr rfl))),⟨ks,y.K f (.inr (ed y i (dr rfl)))⟩,o.K f (.inr (ed o i (dr rfl))),⟨D,A.K f (fun e=>AA i A (aR e)),H,I⟩,h.len,C.b f C.size (fun j e=>by cases e;have:=h.fl.1;omega)⟩
def S2{W W':World}{o}{row}(h:(W.alloc o).grownBy W' row):W.grownBy W' row:=⟨h.os,h.tape,h.output,aO (by simp) h.size,fun b a c=>(h.block b (by simp;omega) c).t (fF _ _ _ a)⟩
structure Qc(w W:World)(p:a8)(aJ:Nat)(vl vk ve:Value)(L:List Ms):Prop where
 l:W.ownsRow w.1.size 80 142 vl L.length (rL L)
 e:W.ownsRow w.1.size 3 1 ve (gu p L L.length).length (nums (gu p L L.length))
 k1:vk.oneCell'=true
 x:j4 p L L.length 0
 len:L.length<=aJ
def age(p:a8)(aK:cO p)(I:Nat)(cb:1<=I)(cH:I<=3000)(aw al:FuncId)(bp aL:Array Value)(w:World)
 (cI:∀args w,(callFunc aw args).run prog w= .ok (.enter aw args) w)(bh:∀args w,(callFunc al args).run prog w= .ok (.enter al args) w)
 (b:∀M W,gA p M->Below w.1.size w W->Calls prog aw (#[.agg (J 142 (X (aB M)))]++bp) W fun e f=>∃v,e= .returned v/\f.ownsRow W.1.size 111 3 v (di p M).length (jy (di p M))/\Below W.1.size W f)
 (ab:∀M x W,gA p M->x∈di p M->Below w.1.size w W->Calls prog al (#[.agg (J 142 (X (aB M))),.agg (J 3 (ig x))]++aL) W (Rs (.agg (J 142 (X (aB (fZ p M x))))) W)):
 Calls prog 33 #[.agg (J 142 (X (aB (iO p)))),.int .i64 I,.func (.func aw) #[] bp,.func (.func al) #[] aL] w fun e f=>∃bq am N ad,e= .returned (.tuple #[.agg (J 3 (eT am N ad)),.bool bq])/\Below w.1.size w f/\TQ am N ad/\(bq=true->∃L,Qc w f p I am N ad L):=by
 have cc:=LN;have cd:=Pn;have bs:=ql;have⟨bt,f⟩:=eX (J 142 (X (aB (iO p))));have⟨ce,A⟩:=eX (#[nS,nS,nS]:Array Value);have⟨bu,g⟩:=eX (J 142 (X fun _=>0));have⟨bv,m⟩:=eX (#[.int .u8 0,.bool false,.int .u8 0]:Array Value);have⟨ax,C⟩:=eX (#[.int .i64 (-1),.int .u8 0,.bool false,.int .u8 0]:Array Value);rw[<-A]at cc;rw[<-g]at bs;rw[<-m]at cd;have r:ce=J 3 (eT nS nS nS):=A;have:=bT f (dr rfl);have:=bT r (dr rfl);have cf:=bT g (dr rfl);have a4:bv.size=3:=by rw[m];rfl
 have:¬bv=#[]:=by intro e;rw[e]at a4;cases a4
 have bw:bt.size=142:=by rw[f,dF]
 have bx:ax.size=4:=by rw[C];rfl
 have⟨s,ae,af,ag,ah,a5⟩:=si w 80 67 f r;have ai:∀W,(Instr.build 170 #[(0,.int .i64 (-1))]).run prog W= .ok (.agg ax) W:=fun W=>by rw[C];exact VJ W
 have ar:∀W:World,(Instr.makeMap 171 none).run prog W= .ok (.map (some W.1.size)) (W.alloc (.map #[] 0)):=fun W=>run_makeMap _ _;have⟨R,l⟩:=eX (s.alloc (.cells bt 80));have⟨wb,t⟩:=eX (R.alloc (.cells ax 170));have E:=row_one (W:=s) (e:=80) bw s.1.size (av _);rw[<-l]at E;have y:Below s s R:=by rw[l];exact ba _ _
 have F:=row_one (W:=R) (e:=170) bx s.1.size y.size;have ak:Below s s wb:=by rw[t];exact y.alloc y.size _
 have P:=E.alloc (.cells ax 170);rw[<-t]at F P;have an:R.1.size=s.1.size+1:=by rw[l];simp
 have⟨bz,Q⟩:=eX (#[.slice s 1 1,.slice R 1 1,nS]:Array Value);have ao:(Instr.build 67 #[(0,.slice s 1 1),(1,.slice R 1 1)]).run prog wb= .ok (.agg bz) wb:=by rw[Q];exact aeg _ _ _ _ _ _ _
 have ap:bz=J 3 (eT (.slice s 1 1) (.slice R 1 1) nS):=Q;rw[<-f];have h:=yn af ag ah b ab (cD f) f r g m ae;have cg:=H (show bu.size=142 by rw[g,dF]);have aa:=gQ P F ak ao ap ai l t an;clear af ag ah b ab f r A g m C ae E F ak ao ap Q ai y P a5 l t an;go_enter func33,ntmps33
 go_upto_region 1 with fail
 rw[<-h.K];refine wp_region_lit ?_;refine br 0 142 h.b h.f (dr rfl) dN rfl cQ rfl ?_;simp only[o];refine NK Tq P3 bw (dr rfl) (dr rfl) rfl ?_;rw[<-aa.g];simp only[o];refine uj [(0,.int .i64 (-1))] _ (aa.f _) rfl ?_;simp only[o];refine NK QF QQ bx (dr rfl) (dr rfl) rfl ?_;rw[<-aa.h];simp only[o];refine uj [(0,.slice s 1 1),(1,.slice R 1 1)] _ aa.d rfl ?_;simp only[o]
 go_upto_region 2 with(refine mh (eT (.slice s 1 1) (.slice R 1 1) nS) aa.e (by rw[h.h,dF]) ow (fun i _=>An _ _ _ rfl rfl rfl i) rfl rfl ?_;intro f y m)
 have g:=aa.c.t (m.m aa.c.size);have A:=World.ownsMap_made f prog 80 bR;have⟨bF,C,E,F⟩:=A.update DI Mr (by unfold maxLen;omega) (yW (aB (iO p))) (show bR (.bool true)=some (.lit (.bool true),[])from rfl);rw[<-h.g]at C;have Q:Below f f (f.alloc (.map #[] 0)):=ba _ _;have l:Below f f bF:=Q.b F (by simp) (fun j e=>by cases e;omega);have ab:=(h.b.Z g h.b.lt).alloc (.map #[] 0);have⟨P,r⟩:=eX wb.1.size;have⟨aM,t⟩:=eX f.1.size;have ae:rq s bF p P aM I [iO p] [] (.slice s 1 1) (.slice R 1 1) nS:=by
  rw[r,t];refine⟨y.Z l y.lt,⟨aa.c.size,g.size⟩,?_,⟨ax.toList,?_⟩,gI _ _ _ _,⟨_,E,⟨_,rfl⟩,su.start aK⟩,cb,g.t (l.m g.size)⟩
  .have:=bP (bP aa.a m) l;rw[h.g]at this;rw[sg]at this;rw[show rL [iO p]=oe (iO p) by simp[rL]];exact this
  exact bP (bP aa.b m) l
 have ch:=aD ae r t;have ay:=H ab;clear y m g A E F Q l ab ae;rw[<-r];clear r
 go_upto_region 3 with(refine br 0 142 ay.y h.f (dr rfl) dN rfl cQ rfl ?_)
 rw[<-t];clear t C ar;go_wp2
 go_loopw [12] (fun i wr=>∃(k:Nat)(L:List Ms)(am N ad:Value),i= .int .i64 k/\k<=L.length/\rq s wr p P aM I L (gu p L k) am N ad/\j4 p L k 0) (fun i _=>4000-(intOf i).toNat)
 case atStart=>exact⟨0,_,_,_,_,rfl,aQ _,ch.a,j4.begin p⟩
 obtain⟨k,L,am,N,ad,rfl,a6,t,ab⟩:=hrel;have⟨aN,an,az⟩:=bo t.l (dr rfl);subst az;have⟨n,ao⟩:=eX L.length;have ci:=t.len;have:wr.cell? P=some (.slice aN n an):=(t.fb.C 0 (dr rfl)).t (by rw[ao];rfl);have:=t.fb.lt;rw[<-ao]at a6 ci;by_cases a7:k<n
 .obtain⟨M,l⟩:∃M,L[k]? =some M:=⟨_,aI (by omega)⟩
  have⟨lb,cJ,e1,cK,y⟩:=LR t.l l;injection e1 with e1 _ cj;subst e1 cj;have r:=ab.zO M (cB l);have ae:Below w.1.size w wr:=h.a.t (t.y.m h.a.size);have cL:(k:Int)<n:=by omega
  have bG:¬(k:Int)<0:=by omega
  have:¬(n:Int)<=k:=by omega
  have⟨bH,m⟩:=eX (J 142 (X (aB M)));have f:=h.d M wr r ae;rw[<-m]at f;have g:=pn t ab l r ae y (m.t (aeW M).s) ao f m;clear t ab l r ae y m ao f
  go_upto_region 7 with(first|(refine F8 g.f g.g dN rfl (by rw[zG];exact cQ) rfl ?_)|(go_at_fn aw;refine g.i.m ?_;rintro e C ⟨l,rfl,m,F⟩))
  have⟨bI,bJ,cl,Q⟩:=Ee m;subst cl;have⟨aP,b⟩:=eX (di p M);rw[<-b]at m Q⊢;have⟨E,y⟩:=eX aP.length;have:E<=100:=by rw[y,b];exact TZ aK (g.d.ok aK)
  have r:=g.a.Z F;have⟨bN,bO,ap⟩:=bo r.e (dr rfl);have⟨aA,A⟩:=eX (gu p L k).length;have:aA<=k:=by rw[A];unfold gu;exact aO (wM _ _) (by simp)
  rw[<-A]at ap;subst ap;have⟨cm,cn,cp,a5,cq⟩:=eQ zr;have:C.cell? ⟨P,2,none⟩=some (.slice bN aA bO):=r.fb.C 2 (dr rfl);have:=r.y.size;rw[<-y]at m⊢;have l:=bM r m b y A;clear r m b y A F Q
  go_upto_if 41 with fail
  go_cut [40] (fun m b=>(∃z,m= .int .i64 z)/\∃r,rq s b p P aM I L (gu p L (k+1)) (.slice lb L.length an) N r/\b.ownsRow wr.1.size 111 3 (.slice bI E bJ) E (jy aP))
  case first=>
   by_cases m:E=0
   .subst m;have b:gu p L (k+1)=gu p L k++[k]:=by
     rw[OU g.c,aq (by rw[<-l.c];exact zM l.d.s)]
    have a9:=H b;clear b;have ar:=H (l.a.fb)
    go_wp2_with (first|(at_builtin;refine DQ _ rfl _ _ 65 rfl s.1.size 3 cm (.int .i64 0) 1 8 underlying65 cn cp a5 cq rfl (dr rfl) _ aA (nums (gu p L k)) rfl (by have:=l.a.e;rw[<-l.E]at this;exact this.alloc _) C 1 1 [.int .i64 k] rfl rfl (kN _ _ _) (by simp[Value.oneCell']) (by unfold maxLen;omega) (by omega) (by simp;omega) ?_;intro ai ah y A ak;have⟨F,Q,af⟩:=bo y (dr rfl);subst af)|(refine kI 2 (.slice F (aA+1) Q) (eT (.slice lb L.length an) N (.slice F (aA+1) Q)) (ar.y.K (S2 A) (fun e=>ed l.a.e ar.y (dr rfl) e.s)) (dr rfl) abl rfl (fun i a1=>Z6 _ _ _ _ i a1) rfl rfl ?_;intro aZ ag r))
    go_meet
    have aS:=S2 A;refine⟨⟨_,rfl⟩,_,rq.Wj l.a aS (E':=gu p L (k+1)) ?_ ag (ar.y.K aS (fun e=>ed l.a.e ar.y (dr rfl) e.s)) r,?_⟩
    .rw[a9.y,dc,pG,<-l.E];exact y
    have bQ:=l.b.K aS (apart l.b l.a.e (dr rfl));exact bQ.K r (.inr (ed bQ (ar.y.K aS (fun e=>ed l.a.e ar.y (dr rfl) e.s)) (dr rfl)))
   have b:gu p L (k+1)=gu p L k:=by
    rw[OU g.c,O (by rw[<-l.c];intro e;rw[e]at l;exact m l.d),kL]
   have:¬(E:Int)=0:=by omega
   have a9:=H b;clear b m;go_wp2
   go_meet
   exact⟨⟨_,rfl⟩,_,by rw[a9.y];exact l.a,l.b⟩
  obtain⟨⟨cM,rfl⟩,aT,t,ai⟩:=hcut;have⟨bS,b⟩:=eX (gu p L (k+1));rw[<-b]at t;have ay:=aD t ai b;clear t ai b;go_wp2
  go_loopw [50] (fun b m=>∃(j:Nat)(F:List Ms)(bb aC:Value),b= .int .i64 j/\j<=E/\(∃T,F=L++T)/\rq s m p P aM I F bS bb aC aT/\m.ownsRow wr.1.size 111 3 (.slice bI E bJ) E (jy aP)/\j4 p F k j) (fun b _=>E-(intOf b).toNat)
  case atStart=>exact⟨0,L,_,_,rfl,aQ _,⟨[],by simp⟩,ay.a,ay.b,g.b⟩
  obtain⟨j,F,bb,aC,rfl,cP,aE,t,ai,ab⟩:=hrel;by_cases cr:j<E
  .obtain⟨x,C⟩:∃x,aP[j]? =some x:=⟨_,aI (by rw[<-l.d];exact cr)⟩
   have m:F[k]? =some M:=by
    obtain⟨T,rfl⟩:=aE;rw[lE (by rw[<-g.h];exact a7)];exact g.c
   have⟨ag,aU,az,bU,ak⟩:=LR t.l m;subst az;have⟨A,y⟩:=eX F.length;have:k<A:=by rw[y];exact(bL.1 m).1
   have ct:=t.len;rw[<-y]at ct;have Q:=ai;rw[l.d]at Q;have⟨cR,cS,bc,au⟩:=Ee Q;injection bc with bc b cu;subst bc cu;clear b;have⟨cT,cv,_,cU,aG⟩:=au (by rw[<-l.d];omega);have aH:=aG j x C;subst cv;have⟨aF,af⟩:=eX (gU x);have cw:(j:Int)<E:=by omega
   have:¬(j:Int)<0:=by omega
   have:¬(E:Int)<=j:=by omega
   have bV:(k:Int)<A:=by omega
   have bY:¬(A:Int)<=k:=by omega
   have b:=yn t ai ab aE C m ak y aH (show aF=(gU x).toList.toArray from af) (af.t (xC x));clear t ai ab aE C m ak y aH af Q au aG
   go_upto_region 12 with(first|(refine F8 b.i b.j nD rfl ll rfl ?_)|(refine mh (ig x) b.K a4 ll (fun i _=>TT _ _) rfl rfl ?_;intro m a2 C))
   have Q:=b.a.Z C;have a3:=bP b.b C;have bf:m.cell? P=some (.slice ag A aU):=(Q.fb.C 0 (dr rfl)).t (by rw[b.h];rfl);have cx:=Q.fb.lt;have be:m.rangeAt ag (k*142) (oe M):=fun q u aV=>(C.C (p:=⟨ag,k*142+q,none⟩) bU).t (b.g q u aV);have cy:ag<m.1.size:=aW bU C.size;have au:Below w.1.size w m:=h.a.t (Q.y.m h.a.size);have⟨af,aG⟩:=eX (fZ p M x);have⟨aX,aH⟩:=eX (J 142 (X (aB af)));have a0:x∈di p M:=by rw[<-l.c];exact cB b.e
   have bg:gA p af:=by rw[aG];exact .step g.d a0
   have f:∀W,Below m m W->Calls prog al (#[.agg bH,.agg aF]++aL) W (Rs (.agg aX) W):=fun W ak=>by
    have:=h.e M x W g.d a0 (au.t (ak.m au.size));rw[<-aG,<-aH,<-g.J,<-b.K]at this;exact this
   have bd:aX.size=142:=by rw[aH,dF]
   have y:=gQ Q a3 a2 au aG aH bg f be;clear Q a3 a2 C au aG aH bg f a0 be;refine Bl.sW 8 _ _ (.cells bu 80) (.cells aX 80) (by kernel_rfl) (by kernel_rfl) rfl rfl (fun a W=>EX bs cf _ _ _ _ _ _) rfl rfl ?_;simp only[st1]
   iterate 2(refine Bl.dK rfl (fun W ak=>by simp[execOp,go_sem,bG,bV,bY];rfl) ?_;simp only[o])
   refine Bl.dK rfl (fun W ak=>by have c:=ak.C (p:=P) cx;rw[bf]at c;simp[execOp,go_sem,c];rfl) ?_
   iterate 2(simp only[o];refine Bl.dK rfl (fun W ak=>by simp[execOp,go_sem,bG,bV,bY];rfl) ?_)
   simp only[o];refine Lx rfl 80 (.tmp 58) rfl ag (k*142) (oe M) rfl y.I cy _ dN rfl (by rw[zG];exact cQ) ?_;rw[<-g.g];simp only[o];refine li 0 3 y.c (cD b.K) (dr rfl) nD rfl ll rfl ?_;simp only[o];refine Bl.mZ (v:= .agg aX) al (#[.agg bH,.agg aF]++aL) rfl (fun W=>by simp[execOp,go_sem,bh]) (fun W ak=>by have a6:=y.h;with_reducible exact a6 W ak) ?_;simp only[o];refine Bl.kr ?_;intro be;refine⟨Fe (.tmp 16) (.tmp 61) rfl be _ _ rfl rfl (by rw[bd];exact cQ) (by rw[bd];exact cg.y) (by rw[y.f];exact CU fun v az=>by obtain⟨i,a1,rfl⟩:=bX.1 az;rfl),?_⟩;intro ah m a0 a1;have C:aj ah be 80 142 (X (aB af)):=by
    show ah.1[be]? =some (.cells (J 142 (X (aB af))) 80 (0,0));rw[<-y.f];exact a1
   have Q:=y.a.Z m;have a2:=bP y.b m;have a3:=y.c.Z m y.c.lt;have⟨D,au,bg,aG⟩:=Q.m;have⟨cz,bh,aH⟩:=Ws au aG y.g;rw[<-y.f]at aH;have:=C.lt;have f:=gQ Q a2 a3 C bh a0 au bg aG;clear Q a2 a3 C bh au bg aG m a1 a0 bf;cases cz with
   |true=>
    go_wp2_with (refine br 0 142 f.d (cD y.f) (dr rfl) dN rfl cQ rfl ?_)
    exact⟨⟨j+1,F,_,aC,by go_num,by omega,b.d,f.a,f.b,b.c.y6 b.f (by rw[<-l.c];exact b.e) (by rw[<-y.e];exact f.e.1 (by trivial))⟩,by simp[intOf];omega⟩
   |false=>
    go_upto_region 14 with(refine br 0 142 f.d (cD y.f) (dr rfl) dN rfl cQ rfl ?_)
    have:ah.cell? P=some (.slice ag A aU):=(f.a.fb.C 0 (dr rfl)).t (by rw[b.h];rfl);by_cases I<=A
    .have cV:(I:Int)<=A:=by omega
     clear aH;have aG:=h.c.Z f.a.y h.c.lt;have cA:=H aG;clear aG
     go_wp2_with (refine jS (eT nS nS nS) cA.y h.h ow (fun i _=>An _ _ _ rfl rfl rfl i) rfl rfl ?_;intro w9 bf C)
     refine bK (oT rfl _ bf _ rfl wO rfl ow) rfl ?_;have ae:=h.a.t (f.a.y.m h.a.size);exact .inl ⟨_,_,_,rfl,ae.b C ae.size (fun j e=>by cases e;omega),fun i=>An _ _ _ rfl rfl rfl i⟩
    have:¬(I:Int)<=A:=by omega
    clear aH;have⟨aZ,bZ,a1,r⟩:=f.g.update DI Mr (by rw[<-b.h];unfold maxLen;omega) (yW (aB af)) (show bR (.bool true)=some (.lit (.bool true),[])from rfl);rw[<-y.f]at bZ;have⟨ks,ah⟩:=f.a.k;have au:=f.a.fb.K r (fun e=>AA f.a.fb f.g (aR e).s);have a2:=f.a.l.K r (.inr fun e=>xJ f.a.l f.g e.s);have aH:=ah.K r (.inr fun e=>xJ ah f.g e.s);have a3:=f.a.e.K r (.inr fun e=>xJ f.a.e f.g e.s);have bg:=f.b.K r (.inr fun e=>xJ f.b f.g e.s);have bh:=f.c.K r (fun e=>AA f.c f.g (aR e).s);have bi:=f.d.K r (fun e=>AA f.d f.g (aR e).s);have a0:=f.a.y.b r f.a.y.size (fun j e=>by cases e;have:=f.a.fl.2;omega);have cC:aZ.cell? P=some (.slice ag A aU):=(au.C 0 (dr rfl)).t (by rw[b.h];rfl);have⟨b0,ck,Q⟩:=bo aH (dr rfl);have cE:=H Q;have bj:aZ.ownsRow s.1.size 80 142 (.slice ag A aU) A (rL F):=by rw[b.h];exact a2
    have m:=gQ au bj aH a3 bg bh bi a0 a1;have b1:=a0.size;clear au a2 aH a3 bg bh bi a0 a1 r ah Q bj
    go_upto_region 17 with(refine br 0 142 f.d (cD y.f) (dr rfl) dN rfl cQ rfl ?_)
    go_upto_region 18 with(first|(refine br 0 142 m.g (cD y.f) (dr rfl) dN rfl cQ rfl ?_)|((with_reducible refine xw _ _ _ ?_);refine BD Tq P3 rfl (dr rfl) (dr rfl) m.b bd (by rw[y.f,sg];exact aaZ af) (by unfold maxLen;omega) (by omega) b1 rfl rfl rfl ?_;intro au w9 aH C cF;have⟨aZ,a0,r⟩:=bo aH (dr rfl);subst r)|(refine kI 0 (.slice aZ (A+1) a0) (eT (.slice aZ (A+1) a0) aC aT) (m.a.K C (fun e=>ed m.b (by have:=m.a;exact this) (dr rfl) e.s)) (dr rfl) Zs rfl (fun i _=>acz _ _ _ _ i) rfl rfl ?_;intro a3 a1 ah))
    have au:=m.a.K C (fun e=>ed m.b m.a (dr rfl) e.s);have bg:=m.c.K C (apart m.c m.b (dr rfl));have bh:=m.d.K C (apart m.d m.b (dr rfl));have bi:=m.e.K C (apart m.e m.b (dr rfl));have b2:=m.f.K C (fun e=>ed m.b m.f (dr rfl) e.s);have bj:=m.I.K C (xJ m.b m.I);have bl:=m.h.b C b1 (fun j e=>(m.b.lt j e).1);have b3:=aH.K ah (.inr (ed aH au (dr rfl)));have a2:=bg.K ah (.inr (ed bg au (dr rfl)));have b4:=bh.K ah (.inr (ed bh au (dr rfl)));have b5:=bi.K ah (.inr (ed bi au (dr rfl)));have b6:=b2.K ah (by intro e;injection e with e;have:=b.a.fb.lt;omega);have b7:=bj.K ah (fun e=>AA au bj (aR e));have bm:=bl.b ah bl.size (fun j e=>by cases e;have:=b.a.fl.1;omega);rw[<-b.h]at a2;have Q:=cE.y;rw[<-b.h]at Q;have:a3.cell? ⟨P,1,none⟩=some (.slice b0 A ck):=(a1.C 1 (dr rfl)).t (by rw[<-Q];rfl);have⟨bn,a3⟩:=eX (#[.int .i64 k,.int .u8 (Y x.t),.bool x.d,.int .u8 (Y x.l)]:Array Value);have b8:∀W,(Instr.build 170 #[(0,.int .i64 k),(1,.agg aF)]).run prog W= .ok (.agg bn) W:=fun W=>by rw[a3,b.K,<-xC];exact XW k x W
    have cG:bn.size=4:=by rw[a3];rfl
    have b9:∀u∈bn.toList,u.oneCell'=true:=by rw[a3];intro u aV;simp at aV;obtain rfl|rfl|rfl|rfl:=aV<;>rfl
    rw[Q]at a2 a1;have r:=pn a1 b3 a2 b4 b5 b6 b7 bm b9 b8;have ca:=bm.size;clear a1 b3 a2 b4 b5 b6 b7 bm b9 b8 au bg bh bi b2 bj bl C ah aH cF Q a3 cC bZ
    go_wp2_with (first|(refine br 0 3 r.f (cD b.K) (dr rfl) nD rfl ll rfl ?_)|(refine uj [(0,.int .i64 k),(1,.agg aF)] _ (r.J _) rfl ?_)|((with_reducible refine xw _ _ _ ?_);refine BD QF QQ rfl (dr rfl) (dr rfl) r.c cG r.i (by unfold maxLen;omega) (by omega) ca rfl rfl rfl ?_;intro bg bh a1 ah bi;have⟨a2,a3,aH⟩:=bo a1 (dr rfl);subst aH)|(refine kI 1 (.slice a2 (A+1) a3) (eT (.slice aZ (A+1) a0) (.slice a2 (A+1) a3) aT) (r.a.K ah (fun e=>ed r.c r.a (dr rfl) e.s)) (dr rfl) abK rfl (fun i _=>afE _ _ _ _ i) rfl rfl ?_;intro bj bm au))
    have aH:=r.a.K ah (fun e=>ed r.c r.a (dr rfl) e.s);have bg:=r.b.K ah (apart r.b r.c (dr rfl));have bh:=r.d.K ah (apart r.d r.c (dr rfl));have bi:=r.e.K ah (apart r.e r.c (dr rfl));have bj:=r.g.K ah (xJ r.c r.g);have bl:=r.h.b ah ca (fun j e=>(r.c.lt j e).1);have bZ:=bg.K au (.inr (ed bg aH (dr rfl)));have ij:=a1.K au (.inr (ed a1 aH (dr rfl)));have b2:=bh.K au (.inr (ed bh aH (dr rfl)));have b3:=bi.K au (.inr (ed bi aH (dr rfl)));have b4:=bj.K au (fun e=>AA aH bj (aR e));have b5:=bl.b au bl.size (fun j e=>by cases e;have:=b.a.fl.1;omega);have a1:(F++[af]).length=A+1:=by rw[dc,<-b.h];rfl
    refine⟨⟨j+1,F++[af],.slice aZ (A+1) a0,.slice a2 (A+1) a3,by go_num,by omega,?_,?_,b3,?_⟩,by simp[intOf];omega⟩
    .have⟨T,ah⟩:=b.d;exact⟨T++[af],by rw[ah,kZ]⟩
    .refine⟨bm,b.a.fl,?_,⟨_,by rw[a1];exact ij⟩,b2,⟨_,by rw[a1];exact(by have:=b4;rwa[<-b.h]at this),Maps.IsMap.put f.h _ _,su.more aK (show su p D F from f.I) f.h y.g⟩,by rw[a1];omega,b5⟩;rw[a1,Vl];have:=bZ;rw[y.f,sg]at this;exact this
    rw[y.e];exact b.c.more b.f (by rw[<-l.c];exact b.e)
  obtain rfl:j=E:=by omega
  have cw:¬(j:Int)<j:=by omega
  have b:=aD t ab aE;clear t ab aE ai;go_wp2;refine⟨⟨k+1,F,bb,aC,aT,by go_num,?_,?_,?_⟩,by simp[intOf];omega⟩
  .obtain⟨T,rfl⟩:=b.C;rw[dc,<-g.h];omega
  .have⟨T,ah⟩:=b.C;have:gu p F (k+1)=bS:=by rw[ah,YR (by rw[<-g.h];omega),ay.C]
   rw[this];exact b.a
  have⟨T,ah⟩:=b.C;exact b.b.next (M:=M) (by rw[ah,lE (by rw[<-g.h];exact a7)];exact g.c) (by rw[<-l.c,<-l.d];omega)
 obtain rfl:k=n:=by omega
 have:¬(k:Int)<k:=by omega
 have g:=aD t ab ao;clear t ab ao a7;have⟨ai,t⟩:=eX (J 3 (eT (.slice aN L.length an) N ad));have ab:=H t;clear t;have⟨bN,bO,ap⟩:=bo g.a.e (dr rfl);have⟨ks,t⟩:=g.a.k;have⟨b0,ck,Q⟩:=bo t (dr rfl);have F:=aY ap t Q (show∀i,(eT (.slice aN L.length an) N ad i).oneCell'=true from fun i=>An _ _ _ rfl (by rw[Q];rfl) (by rw[ap];rfl) i);clear ap t Q
 go_wp2_with (first|(refine br 0 3 g.a.fb (cD ab.y) (dr rfl) wO rfl ow rfl ?_)|(refine jS (eT (.slice aN L.length an) N ad) (h.c.Z g.a.y h.c.lt) ab.y ow (fun i _=>F.D i) rfl rfl ?_;intro w9 bf C))
 refine bK (oT rfl _ bf _ rfl wO rfl ow) rfl ?_;have ae:=h.a.t (g.a.y.m h.a.size);have aG:=h.c.Z g.a.y h.c.lt;refine .inr ⟨_,_,_,rfl,ae.b C ae.size (fun j e=>by cases e;omega),F.D,L,?_,?_,?_,?_,?_⟩
 .exact ft (g.a.l.K C (.inr (ed g.a.l aG (dr rfl)))) h.a.size
 .rw[<-g.C];exact ft (g.a.e.K C (.inr (ed g.a.e aG (dr rfl)))) h.a.size
 .rw[F.c];rfl
 .rw[<-g.C];exact g.b
 exact g.a.len
end
section
attribute [local irreducible] Code.wp wpList Oper.wp wpQuiet
def an:prog.underlying 23=some (.slice 5):=by kernel_rfl
def aaV{p}(c:cO p):∀i,i<142->bm (X fun _=>0) 36 p.init (fun j=> .int .u8 (Y (p.init.getD j 0))) i=X (aB (iO p)) i:=by
 have:=c.iG;have:=c.init;refine BV (fun t j a b=>?_) (fun l e=>?_) (fun t j a b=>?_) (fun t a=>?_)
 .rw[kE _ _ _ _ (by omega)];unfold X;rw[nA _ a b];rfl
 .unfold X;rw[ox _ e];show _=Value.int .u8 (Y (p.init.getD l 0));by_cases h:l<p.init
  .rw[Hr _ _ _ _ h]
  rw[kE _ _ _ _ (by omega),bj,od (by omega)];rfl
 .rw[kE _ _ _ _ (by omega)];unfold X;rw[mD _ a b];show _=Value.int .u8 (Y (ir [] j));rw[DT _ _ (by simp)]
 rw[kE _ _ _ _ (by omega)];unfold X;rw[oS _ a];rfl
def agp(p:a8)(g:Nat->Value)(w:World)(t:eE w g p)(u:jH w g)(x:cO p):
 Calls prog 32 #[(J 10 g)] w (Rs (Value.tuple #[(J 142 (X (aB (iO p)))),.int .i64 0]) w):=by
 have H:=ql;have⟨Q,b⟩:=eX (J 10 g);have⟨R,f⟩:=eX (J 142 (X fun _=>0));have⟨T,y⟩:=eX (J 142 (X (aB (iO p))));have⟨L,z,h,r,A,C,M⟩:=yI w 29 80 80 b f f;rw[<-f]at H;rw[<-b];have:=bT b (dr rfl);have:=bT f (dr rfl);have l:=u.Z h;unfold jH at l;rw[<-b]at l;have⟨I,m,E,F⟩:=(t.Z h (av _)).init;have q:L.cell? ⟨w,2,none⟩=some (.slice I p.init m):=(r.C 2 (dr rfl)).t (by rw[E]);have⟨n,s⟩:=eX p.init.length;rw[<-s]at q;have a:=yn h r A C l (cD b) y F s x z;clear h r A C l b f y F s x z t u E M;go_enter func32,ntmps32
 go_upto_region 2 with fail
 rw[<-a.K]
 go_upto_region 4 with(first|(refine br 0 10 a.b a.f (dr rfl) fN rfl gC rfl ?_)|(go_at_call 10;refine(a.e _ (aP _ _)).st fun F b=>?_))
 have q:F.cell? ⟨w,2,none⟩=some (.slice I n m):=(b.C (p:=⟨w,2,none⟩) a.b.lt).t q;have M:=aW a.b.lt b.size;have f:=aY (a.c.Z b a.c.lt) (a.d.Z b a.d.lt) (a.a.t (b.m a.a.size)) (a.h.Z b (av _));clear b;refine Bl.j2 4 (by kernel_rfl) (by kernel_rfl) ?_;simp only[st1]
 repeat(refine Bl.dK rfl (fun W b=>by have c:=b.C (p:=⟨w,2,none⟩) M;rw[q]at c;simp[execOp,go_sem,c];rfl) ?_;simp only[o])
 refine Bl.kr ?_;intro b h;have:1<=n:=by rw[a.i,a.j.init];exact a.j.pg
 have:n<=6:=by rw[a.i,a.j.init];exact a.j.iG
 have⟨t,u,N,O,z⟩:=f.D (by rw[<-a.i];omega);subst N;have r:aj b (w+2) 80 142 (X fun _=>0):=f.b.Z h f.b.lt;refine Lib.wpList_copy_run b rfl (.tmp 10) (.tmp 12) 23 23 rfl (.slice (some ⟨w+2,36,none⟩) 6 6) (.slice (some ⟨t,u,none⟩) n m) rfl rfl (run_copy_cells b 23 23 _ 5 (w+2) 36 6 6 ⟨t,u,none⟩ n m ((List.range n).map fun j=> .int .u8 (Y (p.init.getD j 0))) an nP (by grind) (fun j v l=>?_) (fun j l=>?_) (fun j l=>r.free _) (fun v s=>by obtain⟨i,_,rfl⟩:=bX.1 s;rfl)) ?_
 .have A:j<n:=by grind
  rw[dG,pU A]at l;obtain rfl:Value.int .u8 (Y (p.init.getD j 0))=v:=aR l;rw[eV];refine(h.C (p:=⟨t,u+j,none⟩) O).t (z j _ ?_);rw[bj,aI (by rw[<-a.i];exact A)];rfl
 .rw[cV,pM]at l;rw[r.C _ (by omega)];rfl
 have C:=r.setCells n 36 (fun j=> .int .u8 (Y (p.init.getD j 0)));have x:=vx ((List.range n).map fun j=>Value.int .u8 (Y (p.init.getD j 0))) b (w+2) 36;generalize b.setCells (w+2) 36 ((List.range n).map fun j=>Value.int .u8 (Y (p.init.getD j 0)))=w4 at*
 have E:aj w4 (w+2) 80 142 (X (aB (iO p))):=C.congr fun i P=>by rw[a.i];exact aaV a.j i P
 have y:=f.c.t (h.m f.c.size);have s:=aD E ((f.a.Z h f.a.lt).K x (by grind)) (y.b x y.size (fun j e=>by grind));clear C x E y r h z
 go_wp2_with (first|(refine br 0 142 s.a (cD a.g) (dr rfl) dN rfl cQ rfl ?_)|(refine jS (X (aB (iO p))) s.b a.g cQ (fun i _=>lg _ _) rfl rfl ?_;intro x h r))
 refine bK (oT rfl _ h _ rfl dN rfl cQ) rfl ?_;exact⟨rfl,s.C.b r s.C.size (fun j e=>by grind)⟩
def adw(p)(g)(M)(q j:Nat)(w)(l:aj w q 29 10 g)(m:w.cell? j=some (.int .u8 3))(r:eE w g p)(s:jH w g)(t:cO p)(u:dW p M):
 Calls prog 34 #[(J 142 (X (aB M))),.pointer q,.pointer j] w fun e h=>∃v,e= .returned v/\h.ownsRow ↑w 111 3 v ↑(di p M) (jy (di p M))/\Below ↑w w h:=by
 have⟨z,n⟩:=eX (J 10 g);have⟨o,c⟩:=eX (J 142 (X (aB M)));have⟨b,i⟩:=eX (w.alloc (.cells o 80));have f:Below w w b:=by rw[i];exact ba w _
 have x:aj b w 80 142 (X (aB M)):=by rw[i];exact aj.dq w _ 142 _ o c
 have y:Calls prog 35 #[z,.int .u8 3,o] b fun e h=>∃v,e= .returned v/\h.ownsRow ↑b 111 3 v ↑(di p M) (jy (di p M))/\Below b b h:=by
  rw[n,c];exact T3 p g M b (r.Z f (av _)) (s.Z f) t u
 rw[<-c];have:=bT c (dr rfl);have:=(f.C (p:=j) (oU _ _ m)).t m;have a:=dH f x (l.Z f l.lt) y (cD n) (cD c) i;clear f x l m r s t u y n c i;go_enter func34,ntmps34
 go_upto_region 1 with fail
 rw[<-a.G]
 go_wp2_with (first|(refine br 0 10 a.c a.e (dr rfl) fN rfl gC rfl ?_)|(refine br 0 142 a.b a.f (dr rfl) dN rfl cQ rfl ?_)|(go_at_call 35;refine a.d.m ?_;rintro e i ⟨v,rfl,c,f⟩))
 go_ret;exact⟨_,rfl,ft c a.a.size,a.a.t (f.m a.a.size)⟩
def VN(p:a8)(g:Nat->Value)(M:Ms)(x:Ps)(s l:Nat)(w:World)(n:aj w s 29 10 g)(o:w.cell? l=some (.int .u8 3))(t:eE w g p)(u:jH w g)(v:cO p)(y:dW p M)(z:x∈di p M):
 Calls prog 36 #[(J 142 (X (aB M))),(J 3 (ig x)),.pointer s,.pointer l] w (Rs (J 142 (X (aB (fZ p M x)))) w):=by
 have I:=ql;have⟨L,q⟩:=eX (J 10 g);have⟨N,b⟩:=eX (J 142 (X (aB M)));have⟨O,c⟩:=eX (J 3 (ig x));have⟨P,h⟩:=eX (J 142 (X fun _=>0));have⟨Q,r⟩:=eX (J 142 (X (aB (fZ p M x))));rw[<-h]at I;have⟨m,A,f,C,E,F,R⟩:=yI w 80 111 80 b c h;have H:Calls prog 37 #[L,.int .u8 3,N,O] m (Rs (Value.tuple #[Q,.int .i64 0]) m):=by
  rw[q,b,c,r];exact aam p g M x m (t.Z f (av _)) (u.Z f) v y z
 rw[<-b,<-c];have:=bT b (dr rfl);have:=bT c (dr rfl);have:=bT h (dr rfl);have:m.cell? l=some (.int .u8 3):=(f.C (p:=l) (oU _ _ o)).t o;have T:P.size=142:=by rw[h,dF]
 have a:=yn f C E F (n.Z f n.lt) H (cD q) (cD b) (cD c) r A;clear f C E F n o t u v y H q b c h r A z R;go_enter func36,ntmps36
 go_upto_region 1 with fail
 rw[<-a.K]
 go_wp2_with (first|(refine br 0 10 a.e a.g (dr rfl) fN rfl gC rfl ?_)|(refine br 0 142 a.b a.h (dr rfl) dN rfl cQ rfl ?_)|(refine br 0 3 a.c a.i (dr rfl) nD rfl ll rfl ?_)|(go_at_call 37;refine a.f.st fun q b=>?_)|(refine mh (X (aB (fZ p M x))) a.j T cQ (fun i _=>lg _ _) rfl rfl ?_;intro h f c)|(refine br 0 142 f (cD a.j) (dr rfl) dN rfl cQ rfl ?_)|(refine jS (X (aB (fZ p M x))) ((a.d.Z b a.d.lt).Z c (a.d.Z b a.d.lt).lt) a.j cQ (fun i _=>lg _ _) rfl rfl ?_;intro r n o))
 refine bK (mT rfl _ n _ rfl dN rfl cQ) rfl ?_;have f:=a.a.t (b.m a.a.size);have h:=f.t (c.m f.size);exact⟨rfl,h.b o h.size (fun j e=>by cases e;omega)⟩
end
def um(g:Nat->Value)(i:Nat):Value:=if i=0 then .string ⟨#[97]⟩else if i=4 then .int .u8 1 else if i<5 then g i else if i=9 then nS else .int .u8 0
section
attribute [local irreducible] Code.wp wpList Oper.wp wpQuiet
def eE.run{W}{g}{p}(h:eE W g p):eE W (um g) p:=⟨h.N,h.init,h.h⟩
def wX(i:Nat):Value:=if i=4 then nS else .int .u8 0
def adE(w):(Instr.build 27 #[]).run prog w= .ok (J 5 wX) w:=by kernel_rfl
def Vx:(prog.info? 27).map (·.size)=some 5:=by kernel_rfl
def agz:(prog.info? 9).map (·.size)=some 1:=by kernel_rfl
def afu(i):(wX i).oneCell'=true:=by unfold wX;split<;>rfl
def adz(g)(i)(a:i<10):bm (aU (aU g 0 (.string ⟨#[97]⟩)) 4 (.int .u8 1)) 5 5 wX i=um g i:=by
 unfold bm aU um wX
 grind
def ZY(p)(g)(o:Nat)(w:World)(ae:1<=o)(af:o<=3000)(q:eE w g p)(I:jH w g)(N:jH w (um g))(r:cO p):
 Calls prog 16 #[(J 10 g),.int .u8 3,.int .i64 o] w fun e O=>∃u l m n,e=(Value.tuple #[(J 3 (eT l m n)),.int .i64 (if u then 0 else 5)])/\Below ↑w w O/\TQ l m n/\(u=true->∃L,Qc w O p o l m n L):=by
 have ag:=LN;have ah:=ql;have P:=adE;have⟨ao,b⟩:=eX (J 10 g);have⟨Q,s⟩:=eX (#[nS,nS,nS]:Array Value);have⟨ai,t⟩:=eX (J 142 (X fun _=>0));have⟨ap,y⟩:=eX (J 5 wX);have⟨aq,z⟩:=eX (J 142 (X (aB (iO p))));have⟨aj,A⟩:=eX (#[.int .u8 3]:Array Value);rw[<-s]at ag;rw[<-t]at ah;rw[<-y]at P;have c:Q=J 3 (eT nS nS nS):=s;have R:aj=J 1 fun _=> .int .u8 3:=A;have⟨ak,C,f,T,E,aa,ab,ad⟩:=Kq w 29 5 67 67 b R c c;have F:=agp p g ak (q.Z f (av _)) (I.Z f) r;rw[<-b,<-z]at F;rw[<-b];have:=bT b (dr rfl);have:=bT c (dr rfl);have:=bT t (dr rfl);have al:=E.C 0 (dr rfl);have am:ai.size=142:=by simp_all
 have an:Q.size=3:=by grind
 have:¬(o:Int)<1:=by omega
 have:¬(65536:Int)<o:=by omega
 rw[A]at C;have a:=Cc f T E aa ab F (cD b) c z y ad C;have v:=aA q N;clear f T E aa ab F b c s t z y C q I N R A ad;go_enter func16,ntmps16
 go_upto_region 2 with fail
 rw[<-a.L]
 go_upto_region 7 with(first|(refine br 0 10 a.b a.g (dr rfl) fN rfl gC rfl ?_)|(go_at_call 32;refine a.f.st fun R c=>?_)|(refine mh (X (aB (iO p))) a.i am cQ (fun i _=>lg _ _) rfl rfl ?_;intro b f s))
 have b:=c.t (s.m c.size);have q:=dC f (a.b.Z b a.b.lt) (a.c.Z b a.c.lt) (a.d.Z b a.d.lt) (a.e.Z b a.e.lt) (a.a.t (b.m a.a.size));have:=aW a.e.lt c.size;clear f c s b al
 go_upto_region 8 with(first|(refine uj [] _ (P _) rfl ?_)|(refine kI 0 (.string ⟨#[97]⟩) _ q.b (dr rfl) agz rfl (fun _ _=>rfl) rfl rfl ?_;intro c A C)|(refine kI 4 (.int .u8 1) _ A (dr rfl) nP rfl (fun _ _=>rfl) rfl rfl ?_;intro t E F)|(refine yb 5 5 wX (um g) E a.j (dr rfl) Vx (fun i _=>afu i) (fun i b=>adz g i b) rfl rfl ?_;intro f s I))
 have t:=(C.t F).t I;have c:=q.F.b t q.F.size (fun j e=>by grind);have b:=dC s (q.a.K t (by grind)) (q.c.K t (by grind)) (q.d.K t (by grind)) (q.e.K t (by grind)) c;have N:=H (age p r o ae af 34 36 #[.pointer w,.pointer (w+1:Nat)] #[.pointer w,.pointer (w+1:Nat)] f (gH func34 (by kernel_rfl) rfl) (gH func36 (by kernel_rfl) rfl)
  (fun M W z f=>adw p (um g) M w (w+1) W (s.Z f s.lt) ((f.C (p:=(w+1:Nat)) b.c.lt).t (b.c.C 0 (dr rfl))) (v.a.run.Z (c.t (f.m c.size)) (av _)) (v.B.Z (c.t (f.m c.size))) r (z.ok r))
  (fun M x W z y f=>VN p (um g) M x w (w+1) W (s.Z f s.lt) ((f.C (p:=(w+1:Nat)) b.c.lt).t (b.c.C 0 (dr rfl))) (v.a.run.Z (c.t (f.m c.size)) (av _)) (v.B.Z (c.t (f.m c.size))) r (z.ok r) y))
 rw[<-a.i]at N;clear C F I t A E s c
 go_upto_region 9 with(first|(refine br 0 142 b.b (cD a.i) (dr rfl) dN rfl cQ rfl ?_)|(go_at_call 33;refine N.y.m ?_;rintro e C ⟨u,l,m,n,rfl,t,s,y⟩;have⟨E,c⟩:=eX (J 3 (eT l m n));rw[<-c];have f:=aD c s y;clear c s y)|(refine mh (eT l m n) f.a an ow (fun i _=>f.b i) rfl rfl ?_;intro F A z))
 have s:=t.t (z.m t.size);have c:=bM A (b.d.Z s b.d.lt) (b.e.Z s b.e.lt) (b.F.t (s.m b.F.size)) z;have:=b.d.lt;clear A t z s;obtain _|_:=u
 .go_wp2_with (first|(refine br 0 3 c.c (cD a.h) (dr rfl) wO rfl ow rfl ?_)|(refine jS (eT nS nS nS) c.b a.h ow (fun i _=>An _ _ _ rfl rfl rfl i) rfl rfl ?_;intro w9 y s))
  refine bK (oT rfl _ y _ rfl wO rfl ow) rfl ?_;exact⟨false,_,_,_,rfl,c.d.b s c.d.size (fun j e=>by grind),fun i=>An _ _ _ rfl rfl rfl i,fun h=>absurd h (dr rfl)⟩
 go_wp2_with (first|(refine br 0 3 c.a (cD f.a) (dr rfl) wO rfl ow rfl ?_)|(refine jS (eT l m n) c.b f.a ow (fun i _=>f.b i) rfl rfl ?_;intro w9 y s))
 refine bK (oT rfl _ y _ rfl wO rfl ow) rfl ?_;have⟨L,t⟩:=f.C trivial;have z:=bP t.l c.E;have A:=bP t.e c.E;exact .inr ⟨l,m,n,rfl,c.d.b s c.d.size (fun j e=>by grind),f.b,L,ft (z.K s (.inr (ed z c.b (dr rfl)))) (by omega),ft (A.K s (.inr (ed A c.b (dr rfl)))) (by omega),t.k1,t.x,t.len⟩
end
def Ck(p:a8)(L:List Ms)(i:Nat):dg:=ku (aB (L.getD i (iO p)))
def Yr(p)(L)(k):(gu p L k)<=k:=by unfold gu;exact aO (wM _ _) (by simp)
def adu{p}{L}{k i}(h:i∈gu p L k):i<k:=by unfold gu at h;simp only[nE,fS]at h;exact h.1
def Xu(l)(f):fw (l++[f])=fw l++bQ f:=by unfold fw;rw[oI];simp
section
attribute [local irreducible] Code.wp wpList Oper.wp wpQuiet
def JC(p:a8)(w:World)(e:Ending)(a:World):Prop:=
 Below w w a/\((∃v,e= .returned (.tuple #[v,.int .i64 5]))\/∃v d,e= .returned (.tuple #[v,.int .i64 0])/\a.ownsRow w.1.size 58 38 v (fy d).length (fw (fy d))/\(∀f,f∈d↔∃M,gA p M/\di p M=[]/\f=ku (aB M))/\d.length<=3000)
def afU{W:World}{base}{v}{E:List Nat}(e:W.ownsRow base 3 1 v E (nums E)){k m:Nat}(f:E[k]? =m):∃b a,v= .slice (b:Nat) ↑E a/\b<↑W/\W.cell? ⟨b,k,none⟩=some (.int .i64 (m:Int)):=by
 have:=(bL.1 f).1;obtain⟨_,c⟩|⟨g,a,i,c,j,h,_⟩:=e.2
 .omega
 refine⟨g,a,c,(gS.1 h).1,?_⟩;have:=e.cells (g:=g) (by rw[c];rfl) k (m:Int) (by unfold nums;rw[dG,f];rfl);rw[eV,cK]at this;omega
def afC(x):∀u∈(bQ x).toArray.toList,u.oneCell'=true:=by intro u a;unfold bQ at a;obtain⟨_,_,rfl⟩:=bX.1 a;rfl
def ado(M):(oe M).toArray=J 142 (X (aB M)):=by unfold oe J;simp
def ael(p:a8)(g:Nat->Value)(y:Nat)(w:World)(ag:1<=y)(ah:y<=3000)(n:eE w g p)(o:jH w g)(r:jH w (um g))(ai:cO p):
 Calls prog 7 #[.agg (J 10 g),.int .u8 3,.int .i64 y] w (JC p w):=by
 have ak:=LN;have⟨N,a⟩:=eX (J 10 g);have⟨O,h⟩:=eX (#[nS,nS,nS]:Array Value);rw[<-h]at ak;have z:O.size=3:=by rw[h];rfl
 have⟨A,c⟩:=eX (w.alloc (.cells N 29));have b:Below w.1.size w A:=by rw[c];exact ba w _
 have t:aj A w.1.size 29 10 g:=by rw[c];exact aj.dq w _ 10 _ N a
 have l:=ZY p g y A ag ah (n.Z b (av _)) (o.Z b) (r.Z b) ai;rw[<-a]at l⊢;have:=bT a (dr rfl);have:¬O=#[]:=by intro e;rw[e]at z;exact absurd z (dr rfl)
 have q:=bM b t l (cD a) c;clear b t l a c n o r h;go_enter func7,ntmps7
 go_upto_region 1 with fail
 rw[<-q.E]
 go_upto_region 2 with(first|(refine br 0 10 q.b q.d (dr rfl) fN rfl gC rfl ?_)|(go_at_call 16;refine q.c.m ?_;rintro e t ⟨F,b,l,o,rfl,r,x,C⟩;have⟨I,a⟩:=eX (J 3 (eT b l o));rw[<-a];have v:=aD a x C;clear a x C)|(refine mh (eT b l o) v.a z ow (fun i _=>v.b i) rfl rfl ?_;intro h c n))
 have o:=q.a.t ((r.t (n.m r.size)).m q.a.size);obtain _|_:=F
 .have b:=H o;clear r n c o;go_wp2
  go_ret2
  exact⟨b.y,.inl ⟨_,rfl⟩⟩
 have⟨L,a⟩:=v.C (by trivial);have⟨al,P,am⟩:=bo a.l (dr rfl);subst am;have⟨an,ao,ap⟩:=bo a.e (dr rfl);subst ap;have⟨E,I⟩:=eX (gu p L L.length);have⟨x,C⟩:=eX L.length;have⟨l,F⟩:=eX (gu p L L.length).length;have Q:(gu p L L.length).length<=L.length:=Yr p L _;have aq:l<=3000:=by have:=a.len;omega
 have ar:h.cell? t=some (.slice al x P):=by rw[C];exact c.C 0 (dr rfl)
 have R:h.cell? ⟨t.1.size,2,none⟩=some (.slice an l ao):=by rw[F];exact c.C 2 (dr rfl)
 have b:=gQ o c (bP a.l n) (bP a.e n) I C F a n;have au:w.1.size<=h.1.size:=o.size;have aw:t.1.size<h.1.size:=c.lt;clear r n c o a I C F Q
 go_wp2_with fail
 clear R
 go_loopw [10,26] (fun s i wr=>∃k:Nat,k<=l/\i= .int .i64 k/\Below h h wr/\wr.ownsRow h.1.size 58 38 s ((E.take k).map (Ck p L)).length (fw ((E.take k).map (Ck p L)))) (fun _ i _=>l-(intOf i).toNat)
 case atStart=>exact⟨0,aQ _,rfl,aP _ _,gI _ _ _ _⟩
 obtain⟨k,aG,rfl,c,o⟩:=hrel;have⟨aH,aK,ax⟩:=bo o (dr rfl);subst ax;have⟨r,a⟩:=eX wr;rw[<-a]at o c⊢;clear a;have⟨D,n⟩:=eX ((E.take k).map (Ck p L));rw[<-n]at o⊢;by_cases k<l
 .have aL:(k:Int)<l:=by omega
  have Q:E.length=l:=by rw[b.e,b.g]
  obtain⟨m,C⟩:∃m,E[k]? =some m:=⟨_,aI (by omega)⟩
  have R:m<L.length:=adu (p:=p) (L:=L) (k:=L.length) (by rw[<-b.e];exact cB C);obtain⟨M,T⟩:∃M,L[m]? =some M:=⟨_,aI R⟩
  have⟨W,aM,e1,ay,aa⟩:=afU (E:=gu p L L.length) b.d (k:=k) (m:=m) (by rw[<-b.e];exact C);have⟨lb,aN,e2,az,ab⟩:=LR b.c T;injection e1 with e1 _ aA;injection e2 with e2 _ aC;subst e1 e2 aA aC;have:r.cell? ⟨W,k,none⟩=some (.int .i64 (m:Int)):=(c.C (p:=⟨W,k,none⟩) ay).t aa;have:r.cell? t=some (.slice lb x P):=(c.C (p:=t) aw).t ar;have:m<x:=by rw[b.f];exact R
  have:x<=3000:=by rw[b.f];have:=b.h.len;omega
  have:(m:Int)<x:=by omega
  have:¬(m:Int)<0:=by omega
  have:¬(k:Int)<0:=by omega
  have⟨aE,F⟩:=eX (J 142 (X (aB M)));have⟨ad,v⟩:=eX (bQ (ku (aB M))).toArray;have aF:ad.size=38:=by rw[v];simp[lW]
  have ae:Calls prog 17 #[.agg aE] r (Rs (.agg ad) r):=by rw[F,v];exact agO _ _
  have t:D.length=k:=by rw[n];simp;omega
  have af:(E.take (k+1)).map (Ck p L)=D++[ku (aB M)]:=by
   rw[jd,C,n];simp[Ck,bj,T]
  have a:=jR c o (show r.rangeAt lb (m*142) (oe M)from fun j u I=>(c.C (p:=⟨lb,m*142+j,none⟩) az).t (ab j u I)) (F.t (ado M).s) v ae af t;have I:=c.size;clear c o ab F v ae n af aa t
  go_wp2_with (first|(refine F8 a.c a.d dN rfl (by rw[zG];exact cQ) rfl ?_)|(go_at_call 17;refine a.f.st fun aa v=>?_)|((with_reducible refine xw _ _ _ ?_);refine BD FX C0 rfl (dr rfl) (dr rfl) (bP a.b v) aF (by rw[a.e];exact afC _) (by unfold maxLen;have:=a.H;omega) (by have:=a.H;omega) (aO I v.size) rfl rfl rfl ?_;intro ae af F ab _))
  refine⟨⟨k+1,by omega,by go_num,((a.a.t (v.m I)).b ab (aO I v.size) (fun j e=>(a.b.lt j e).1)),?_⟩,by simp[intOf];omega⟩;rw[a.g,Xu,dc];rw[a.e]at F;exact F
 obtain rfl:k=l:=by omega
 have:¬(k:Int)<k:=by omega
 have Q:E.length=k:=by rw[b.e,b.g]
 rw[sl (by omega)]at n;have t:D.length=k:=by rw[n];simp;omega
 have F:∀f,f∈D↔∃M,gA p M/\di p M=[]/\f=ku (aB M):=by rw[n,b.e];exact b.h.x.Zv
 have a:=aY (b.a.t (c.m au)) F t (SM h.1.size _ D r o (by omega));have h:=aO (nJ t) aq;clear c o n t F Q
 go_wp2_with (go_at_call 15;refine a.D.m ?_;rintro e aa ⟨n,rfl,c,v⟩)
 go_ret2
 exact⟨a.a.t (v.m a.a.size),.inr ⟨_,D,rfl,ft c a.a.size,a.b,h⟩⟩
end
section
inductive Rt(ins:List Ins)(Q:List UInt8):aK->Prop
 |zero:Rt ins Q jL
 |step {r:aK} {x:Ins} {v:UInt8} (h:Rt ins Q r) (hx:ins[r.pc]? =some x) (hv:lq x=true->v∈Q):Rt ins Q (bw r x v)
inductive CV(ins:List Ins)(Q:List UInt8)(R:aK):aK->Prop
 |refl (h:ins.length<=R.pc):CV ins Q R R
 |step {r:aK} {x:Ins} {v:UInt8} (hx:ins[r.pc]? =some x) (hv:lq x=true->v∈Q) (h:CV ins Q R (bw r x v)):CV ins Q R r
section
variable{ins:List Ins}{Q:List UInt8}{R r:aK}
def CV.cont(h:CV ins Q R r):jM ins R r:=by
 induction h with
 |refl h=>exact .refl h
 |step f _ _ g=>exact .step f g
def CV.rt(h:CV ins Q R r)(f:Rt ins Q r):Rt ins Q R/\ins.length<=R.pc:=by
 induction h with
 |refl h=>exact⟨f,h⟩
 |step g i _ o=>exact o (f.step g i)
def Rt.cv(h:Rt ins Q r)(f:CV ins Q R r):CV ins Q R jL:=by
 induction h with
 |zero=>exact f
 |step _ g i o=>exact o (.step g i f)
def X6{x}(h:lq x=false)(b:ol x)(r)(v u):bw r x v=bw r x u:=by
 obtain a|a|a|a|a|a:=iY b.qf b.iY
 .unfold lq at h
  grind
 .exact CB (.inl a) _ _ _
 .unfold lq at h
  grind
 .exact CB (.inr (.inr (.inl a))) _ _ _
 .exact CB (.inr (.inl a)) _ _ _
 exact CB (.inr (.inr (.inr a))) _ _ _
def Tg(c:lT ins):∀m(r:aK),ins.length-r.pc<=m->(CV ins Q R r↔CV ins Q R (jt ins m r).1)/\r.pc<=(jt ins m r).1.pc/\match (jt ins m r).2 with
 |true=>∃x,ins[(jt ins m r).1.pc]? =some x/\lq x=true
 |false=>ins.length<=(jt ins m r).1.pc:=by
 intro m
 induction m with
 |zero=>intro r h;exact⟨nY,av _,by show ins.length<=r.pc;omega⟩
 |succ m f=>
  intro r h;unfold jt;cases a:ins[r.pc]? with
  |none=>exact⟨nY,av _,RA.1 a⟩
  |some x=>
   simp only[];cases b:lq x with
   |true=>rw[aq rfl];exact⟨nY,av _,x,a,b⟩
   |false=>
    rw[O (dr rfl)];have:=BR r x 0;have⟨i,n,j⟩:=f (bw r x 0) (by omega);refine⟨?_,by omega,j⟩;rw[<-i];constructor
    .intro g;cases g with
     |refl g=>have:=(bL.1 a).1;omega
     |@step _ y v l o g=>obtain rfl:=aR (a.s.t l);rw[X6 b (c.ok _ _ a).1 r 0 v];exact g
    intro g;exact .step a (fun e=>by grind) g
def Nk(h:ins.length<=r.pc):CV ins Q R r↔R=r:=by
 constructor
 .intro g;cases g with
  |refl g=>rfl
  |step a _ _=>have:=(bL.1 a).1;omega
 rintro rfl;exact .refl h
def Zu(i:lT ins):∀n(r:aK),ins.length-r.pc<=n->(CV ins Q R r↔R∈k7 ins Q n r):=by
 intro n
 induction n with
 |zero=>
  intro r h;have⟨f,a,c⟩:=Tg (Q:=Q) (R:=R) i (ins.length-r.pc) r (av _);unfold k7;rw[f,lh];exact Nk (aO (by omega) a)
 |succ n l=>
  intro r h;have⟨f,a,c⟩:=Tg (Q:=Q) (R:=R) i (ins.length-r.pc) r (av _);unfold k7;rw[f];unfold fW;have⟨q,m⟩:=eX (jt ins (ins.length-r.pc) r);rw[<-m]at a c⊢;obtain⟨e,o⟩:=q;cases o with
  |false=>
   rw[O (by simp),lh];exact Nk c
  |true=>
   obtain⟨x,b,p⟩:=c;rw[aq rfl,mR];have b:ins[e.pc]? =some x:=b;simp only[b];constructor
   .intro g;cases g with
    |refl g=>have:=(bL.1 b).1;omega
    |@step _ y v s j g=>
     have:=BR e x v
     grind
   rintro⟨v,j,g⟩;have:=BR e x v;have a:r.pc<=e.pc:=a;exact .step b (fun _=>j) ((l _ (by omega)).2 g)
def DD(a:lT ins):R∈dA ins Q↔Rt ins Q R/\ins.length<=R.pc:=by
 unfold dA;rw[<-Zu a _ _ (Nat.sub_le _ _)];exact⟨fun h=>h.rt .zero,fun⟨b,c⟩=>b.cv (.refl c)⟩
def YX(b:∃v,v∈Q):∀n(r:aK),ins.length-r.pc<=n->∃R,CV ins Q R r:=by
 obtain⟨v,c⟩:=b;intro n
 induction n with
 |zero=>intro r h;exact⟨r,.refl (by omega)⟩
 |succ n e=>
  intro r h;cases a:ins[r.pc]? with
  |none=>exact⟨r,.refl (RA.1 a)⟩
  |some x=>
   have:=BR r x v;have⟨R,f⟩:=e (bw r x v) (by omega);exact⟨R,.step a (fun _=>c) f⟩
end
def acT{rs}{r}(a:r∈rs){i}(b:i<r.many)(c:(r.ev i).kind=2):(r.ev i).val∈oX rs:=by
 unfold oX oL;refine bX.2 ⟨(r.ev i).val.toNat,nE.2 ⟨fS.2 (r.ev i).val.toNat_lt,?_⟩,by simp⟩;unfold rJ;unfold uD
 grind
def aeV{a b:List UInt8}(c:a.Nodup)(f:∀x∈a,x∈b)(g:b.length<=a.length):∀x∈b,x∈a:=by
 intro x g;apply ki;intro h;have:=yC (x::a) b (yx.2 ⟨h,c⟩) (fun y i=>(fI.1 i).elim (fun e=>e▸g) (f y))
 grind
def agr{C}{vs}{x}:x∈fM C vs C.length↔x∈vs\/∃ins∈C,x∈oX (dA ins vs):=by
 unfold fM
 grind
def adK{C}:∀n(a vs:List UInt8),a.Nodup->me C n a=some vs->(∀x∈a,x∈vs)/\vs.Nodup/\∀ins∈C,∀x∈oX (dA ins vs),x∈vs:=by
 intro n
 induction n with
 |zero=>intro a vs _ h;unfold me at h;cases h
 |succ n c=>
  intro a vs f h;unfold me at h;split at h
  .cases h
  cases e:sd C a with
  |none=>rw[e]at h;cases h
  |some nx=>
   rw[e]at h;have b:nx=cF (fM C a C.length):=by
    unfold sd at e
    grind
   have g:∀x,x∈nx↔x∈a\/∃ins∈C,x∈oX (dA ins a):=fun x=>by rw[b,yg,agr]
   simp only[]at h;split at h
   .rename_i i;have j:=aeV f (fun x l=>(g x).2 (.inl l)) (nJ i)
    grind
   have⟨m,j⟩:=c nx vs (by rw[b];exact FJ _) h
   grind
def cO.code{p}(f:cO p):∀ins∈p.h,lT ins:=fun ins hi=>⟨f.len ins hi,fun i x g=>by
 have h:=f.ins ins hi i x g;have:=(bL.1 g).1;exact⟨h.ok,fun o=>by have:=(h.f8 o).2;omega⟩⟩
structure Pz(p:a8)(vs:List UInt8):Prop where
 init:∀l,l<p.N->w p l∈vs
 closed:∀ins∈p.h,∀r,Rt ins vs r->∀i,i<r.many->(r.ev i).kind=2->(r.ev i).val∈vs
def adH{p}(a:cO p){vs}(h:pY p=some vs):Pz p vs:=by
 unfold pY at h;have⟨e,_,m⟩:=adK _ _ _ (FJ _) h;have b:∀l,l<p.N->w p l∈vs:=fun l f=>by
  refine e _ ((yg _ _).2 ?_);unfold w;rw[bj,aI (by rw[a.init];exact f)]
  grind
 refine⟨b,fun ins g r j i n o=>?_⟩;have⟨R,c⟩:=YX (ins:=ins) ⟨_,b 0 a.pg⟩ _ r (av _);have⟨q,s⟩:=c.cont.bZ;have:=acT ((DD (a.code ins g)).2 (c.rt j)) (i:=i) (by omega) (by grind)
 grind
def agK{p}(n:cO p){vs}(o:Pz p vs){A}(h:Ho p A):(∀t,t<p.h.length->Rt (bH p t) vs (A.run t))/\∀t,p.h.length<=t->(A.run t).many=0:=by
 induction h with
 |refl=>exact⟨fun _ _=> .zero,fun _ _=>rfl⟩
 |@step A A' h y g=>
  obtain⟨g,z⟩:=g;have l:=El n h;have C:∀t,t<p.h.length->bH p t∈p.h:=fun t c=>by
   unfold bH
   grind
  have E:∀t x,t<p.h.length->(bH p t)[(A.run t).pc]? =some x->lq x=true->A.dM (w p) t x∈vs:=by
   intro t x c b F;have H:=(vN n c b).1.loc (by
    unfold lq at F
    grind)
   unfold Mc.dM;cases e:A.a.fD t x.loc.toNat with
   |none=>exact o.init _ H
   |some a=>
    have⟨m,I,_⟩:=(l.inv.fD x.loc.toNat).1 a e;have J:=l.cz.1 m;have q:a.1<p.h.length:=by
     grind
    have:=o.closed _ (C _ q) _ (g _ q) a.2 J (by rw[<-l.ev m];exact I);rw[<-l.ev m]at this;exact this
  have f:∀{t:Nat}{x:Ins}(s:Am),t<p.h.length->(bH p t)[(A.run t).pc]? =some x->A'=A.ex (w p) t x s->(∀t,t<p.h.length->Rt (bH p t) vs (A'.run t))/\∀t,p.h.length<=t->(A'.run t).many=0:=by
   rintro t x s c b rfl;refine⟨fun u i=>?_,fun u i=>?_⟩
   .show Rt _ _ (P A.run t (A.next (w p) t x) u);by_cases e:u=t
    .subst e;rw[bc];exact(g u i).step b (E u x i b)
    rw[bf _ _ e]
    grind
   show(P A.run t (A.next (w p) t x) u).many=0;rw[bf _ _ (by omega)]
   grind
  cases y with
  |load c b j=>exact f _ c b rfl
  |store c b j=>exact f _ c b rfl
  |dP c b j v i=>exact f _ c b rfl
  |B7 c b j v i=>exact f _ c b rfl
  |Cb c b j v=>exact f _ c b rfl
  |quiet c b j=>exact f _ c b rfl
  |drain L=>exact⟨g,z⟩
end
section
def LO{α}(f)(k)(u v:α):P (P f k u) k v=P f k v:=by
 unfold P
 grind
def FI(i j)(a:i<32):(iM i).getLsbD j=decide (j=i):=by
 unfold iM;rw[OB,OH]
 grind
def dV(k:Nat)(ev:Nat->Ev)(s:BitVec 32):Prop:=∀q,s.getLsbD q=true->q<k/\(ev q).kind=1
def dV.zero(k)(ev):dV k ev 0:=fun q h=>by simp at h
def dV.or{k}{ev}{s t}(h:dV k ev s)(g:dV k ev t):dV k ev (s|||t):=fun q f=>by
 rw[iU,jW]at f;exact f.elim (h q) (g q)
def dV.bit{k j}{ev}(f:j<32)(h:j<k)(i:(ev j).kind=1):dV k ev (iM j):=fun q g=>by
 rw[FI j q f]at g
 grind
def dV.more{k k'}{ev ev'}{s}(h:dV k ev s)(g:k<=k')(i:∀q,q<k->ev' q=ev q):dV k' ev' s:=fun q f=>by
 have⟨o,u⟩:=h q f
 grind
structure za(N:Nat)(ev:Nat->Ev)(q:Nat):Prop where
 pos:(ev q).pos=UInt8.ofNat q
 kind:((ev q).kind=1\/(ev q).kind=2)/\(ev q).loc.toNat<N\/(ev q).kind=3/\(ev q).loc=0/\(ev q).val=0
 data:dV q ev (ev q).data
 Tj:(ev q).data≠0->(ev q).kind=2
 A:dV q ev (ev q).A
 ff:((ev q).kind=2/\(ev q).mode=3/\1<=q/\(ev (q-1)).kind=1/\(ev (q-1)).loc=(ev q).loc/\(ev (q-1)).mode=3/\(ev q).ff=iM (q-1))\/(¬((ev q).kind=2/\(ev q).mode=3)/\(ev q).ff=0)
def za.more{N k q}{ev ev'}(h:za N ev q)(g:q<k)(f:∀q,q<k->ev' q=ev q):za N ev' q:=by
 have e:=f q g;exact⟨by rw[e];exact h.pos,by rw[e];exact h.kind,by rw[e];exact h.data.more (av _) fun j i=>f j (by omega),by rw[e];exact h.Tj,by rw[e];exact h.A.more (av _) fun j i=>f j (by omega),by rw[e,(f (q-1) (by omega))];exact h.ff⟩
structure kX(N:Nat)(r:aK):Prop where
 uP:∀q,r.many<=q->r.ev q=jN
 tz:∀j,dV r.many r.ev (r.dI j)
 qP:dV r.many r.ev r.control
 ev:∀q,q<r.many->za N r.ev q
def tT{N}{r}(h:kX N r)(a):dV r.many r.ev (cW r a):=by
 unfold cW;split
 .exact h.tz _
 exact dV.zero _ _
def kX.one{N}{r r'}{e}(h:kX N r)(u:r'.many=r.many+1)(f:r'.ev=P r.ev r.many e)(i:∀j,dV r'.many r'.ev (r'.dI j))(o:dV r'.many r'.ev r'.control)(g:za N r'.ev r.many):kX N r':=by
 have bZ:∀q,q<r.many->r'.ev q=r.ev q:=fun q g=>by rw[f];exact bf _ _ (by omega)
 refine⟨fun q g=>?_,i,o,fun q w=>?_⟩
 .rw[f,bf _ _ (by omega)];exact h.uP q (by omega)
 by_cases q=r.many
 .grind
 exact(h.ev q (by omega)).more (k:=r.many) (by omega) bZ
section
variable{N:Nat}{r:aK}{x:Ins}{v:UInt8}
def tn(r:aK)(x:Ins)(k v m:UInt8)(d c:BitVec 32):Ev:=⟨k,x.loc,v,m,UInt8.ofNat r.pc,UInt8.ofNat r.many,d,c,0⟩
def CW(r:aK)(x:Ins)(v:UInt8)(d c:BitVec 32):Ev:=⟨2,x.loc,v,3,UInt8.ofNat r.pc,UInt8.ofNat (r.many+1),d,c,iM r.many⟩
def adp(h:kX N r)(a:x.op=1):bw r x v=⟨r.pc+1,P r.L x.dst.toNat v,P r.dI x.dst.toNat (iM r.many),r.control,r.many+1,P r.ev r.many (tn r x 1 v x.mode 0 r.control)⟩:=by
 unfold bw eF;rw[a];simp only[show(1:UInt8).toNat=1 from rfl,yp,oN,iZ,h.uP _ (av _)];rfl
def U5(h:kX N r)(a:x.op=2):bw r x v=⟨r.pc+1,r.L,r.dI,r.control,r.many+1,P r.ev r.many (tn r x 2 (bU r x.a) x.mode (cW r x.a) r.control)⟩:=by
 unfold bw eF;rw[a];simp only[show(2:UInt8).toNat=2 from rfl,yj,iZ,h.uP _ (av _)];rfl
def aaY(h:kX N r)(a:x.op=7):bw r x v=⟨r.pc+1,r.L,r.dI,r.control,r.many+1,P r.ev r.many ⟨3,0,0,x.mode,UInt8.ofNat r.pc,UInt8.ofNat r.many,0,r.control,0⟩⟩:=by
 unfold bw eF;rw[a];simp only[show(7:UInt8).toNat=7 from rfl,xg,iZ,h.uP _ (av _)];rfl
def JD(h:kX N r)(bZ val)(dI):nC r x bZ val dI=⟨r.pc,P r.L x.dst.toNat bZ,P r.dI x.dst.toNat (iM r.many),r.control,r.many+2,P (P r.ev r.many (tn r x 1 bZ 3 0 r.control)) (r.many+1) (CW r x val dI r.control)⟩:=by
 simp only[nC,oN,iZ,bc,bf _ _ (show r.many+1≠r.many by omega),h.uP _ (av _),LO];rfl
def Cm(r:aK)(x:Ins):BitVec 32:=if x.op=4 then cW r x.a else if x.op=5 then cW r x.a|||iM r.many else cW r x.b
def C6(r:aK)(x:Ins):BitVec 32:=if x.op=6 then r.control|||(iM r.many|||cW r x.a)else r.control
def aeO(h:kX N r)(a:x.op=4\/x.op=5\/x.op=6):bw r x v=match my r x v with
 |some u=>⟨r.pc+1,P r.L x.dst.toNat v,P r.dI x.dst.toNat (iM r.many),r.control,r.many+2,P (P r.ev r.many (tn r x 1 v 3 0 r.control)) (r.many+1) (CW r x u (Cm r x) (C6 r x))⟩
 |none=>⟨r.pc+1,P r.L x.dst.toNat v,P r.dI x.dst.toNat (iM r.many),r.control,r.many+1,P r.ev r.many (tn r x 1 v 3 0 r.control)⟩:=by
 unfold bw eF my Cm C6;obtain a|a|a:=a<;>rw[a]
 .simp only[show(4:UInt8).toNat=4 from rfl,zP,JD h];rfl
 .simp only[show(5:UInt8).toNat=5 from rfl,xN,JD h,bc,LO,CW,xB];rfl
 simp only[show(6:UInt8).toNat=6 from rfl,qk];by_cases e:v=bU r x.a
 .simp only[aq e,JD h,bc,LO,CW,xM];rfl
 simp only[O e,oN,iZ,h.uP _ (av _)];rfl
def kX.step(h:kX N r)(hi:ol x)(y:xH x)(A:x.op=1\/x.op=2\/x.op=4\/x.op=5\/x.op=6->x.loc.toNat<N)(H:r.many<30):kX N (bw r x v):=by
 have bZ:∀(e:Ev) q,q<r.many->P r.ev r.many e q=r.ev q:=fun e q E=>bf _ _ (by omega);have g:∀(e:Ev){s:BitVec 32},dV r.many r.ev s->dV (r.many+1) (P r.ev r.many e) s:=fun e s F=>F.more (tP _) (bZ e);have gV:∀(m:UInt8)(y:m=3\/m≠3)(i:x.loc.toNat<N),kX N ⟨r.pc+1,P r.L x.dst.toNat v,P r.dI x.dst.toNat (iM r.many),r.control,r.many+1,P r.ev r.many (tn r x 1 v m 0 r.control)⟩:=by
  intro m _ i;refine h.one rfl rfl (fun j=>?_) (g _ h.qP) ⟨?_,?_,?_,?_,?_,?_⟩
  .show dV _ _ (P r.dI x.dst.toNat (iM r.many) j);by_cases e:j=x.dst.toNat
   .rw[e,bc];exact dV.bit (by omega) (qW _) (by show Ev.kind (P _ _ _ _)=1;rw[bc];rfl)
   rw[bf _ _ e];exact g _ (h.tz j)
  all_goals simp only[bc]
  .rfl
  .exact .inl ⟨.inl rfl,i⟩
  .exact dV.zero _ _
  .exact fun e=>absurd rfl e
  .exact h.qP.more (av _) (bZ _)
  exact .inr ⟨fun e=>(by cases e.1),rfl⟩
 obtain f|f|f|f|f|f:=iY hi.qf hi.iY
 .rw[adp h f]
  grind
 .rw[U5 h f];refine h.one rfl rfl (fun j=>g _ (h.tz j)) (g _ h.qP) ⟨?_,?_,?_,?_,?_,?_⟩
  all_goals simp only[bc]
  .rfl
  .exact .inl ⟨.inr rfl,A (.inr (.inl f))⟩
  .exact(tT h _).more (av _) (bZ _)
  .exact fun _=>rfl
  .exact h.qP.more (av _) (bZ _)
  exact .inr ⟨fun e=>y.2 f e.2,rfl⟩
 .rw[aeO h f];have i:=A (.inr (.inr f));have o:=gV 3 (.inl rfl) i;cases e:my r x v with
  |none=>exact o
  |some u=>
   have w:∀q,q<r.many+1->P (P r.ev r.many (tn r x 1 v 3 0 r.control)) (r.many+1) (CW r x u (Cm r x) (C6 r x)) q=P r.ev r.many (tn r x 1 v 3 0 r.control) q:=fun q E=>bf _ _ (by omega);have C:dV (r.many+1) (P r.ev r.many (tn r x 1 v 3 0 r.control)) (iM r.many):=dV.bit (by omega) (qW _) (by rw[bc];rfl);refine o.one (r':=⟨r.pc+1,_,_,_,r.many+2,_⟩) rfl rfl (fun j=>(o.tz j).more (tP _) w) (o.qP.more (tP _) w) ⟨?_,?_,?_,?_,?_,?_⟩
   all_goals simp only[bc]
   .rfl
   .exact .inl ⟨.inr rfl,i⟩
   .refine dV.more (k:=r.many+1) ?_ (av _) w;show dV _ _ (Cm r x);unfold Cm;split
    .exact g _ (tT h _)
    split
    .exact(g _ (tT h _)).or C
    exact g _ (tT h _)
   .exact fun _=>rfl
   .refine dV.more (k:=r.many+1) ?_ (av _) w;show dV _ _ (C6 r x);unfold C6;split
    .exact(g _ h.qP).or (C.or (g _ (tT h _)))
    exact g _ h.qP
   refine .inl ⟨rfl,rfl,Nat.le_add_left _ _,?_⟩;rw[show r.many+1-1=r.many by omega,bf _ _ (by omega),bc];exact⟨rfl,rfl,rfl,rfl⟩
 .rw[aaY h f];refine h.one rfl rfl (fun j=>g _ (h.tz j)) (g _ h.qP) ⟨?_,?_,?_,?_,?_,?_⟩
  .show Ev.pos (P _ _ _ _)=_;rw[bc]
  .simp only[bc]
   grind
  all_goals simp only[bc]
  .exact dV.zero _ _
  .grind
  .exact h.qP.more (av _) (bZ _)
  grind
 .have e:bw r x v=⟨r.pc+1,(wW r x).L,(wW r x).dI,r.control,r.many,r.ev⟩:=by unfold bw eF;rw[f];rfl
  rw[e];refine⟨h.uP,fun j=>?_,h.qP,h.ev⟩;show dV _ _ (P r.dI _ _ j);unfold P;split
  .exact(tT h _).or (tT h _)
  exact h.tz j
 have e:bw r x v=⟨(pj r x).pc+1,r.L,r.dI,r.control|||(cW r x.a|||cW r x.b),r.many,r.ev⟩:=by unfold bw eF;rw[f];rfl
 rw[e];exact⟨h.uP,h.tz,h.qP.or ((tT h _).or (tT h _)),h.ev⟩
end
def kX.zero(N):kX N jL:=⟨fun _ _=>rfl,fun _=>dV.zero _ _,dV.zero _ _,fun q f=>absurd f (jD _)⟩
def Rt.inv{p}(o:cO p){ins}(hi:ins∈p.h){Q}{r}(h:Rt ins Q r):kW ins r/\kX p.N r:=by
 induction h with
 |zero=>exact⟨KS _,kX.zero _⟩
 |@step r x v h g f i=>
  have u:=o.code ins hi;have:=u.len;have:=(bL.1 g).1;have:=i.1.many;have f:=o.ins ins hi _ _ g;exact⟨(vh v u i.1 g).1,i.2.step f.ok ⟨f.m1,f.m2⟩ f.loc (by omega)⟩
end
section
def iw(n:Nat)(R:Nat->aK):List Path:=(List.range n).map fun t=>eA (R t)
section
variable{init:List UInt8}{n:Nat}{R:Nat->aK}
def uC:(iw n R)=n:=by unfold iw;simp
def zu{t}(h:t<n):(iw n R).getD t jU=eA (R t):=by unfold iw;rw[bj];simp[h]
def RH(r):(eA r).F.length=r.many:=by unfold eA;simp
def R3(r){q}(h:q<r.many):(eA r).F[q]? =(r.ev q):=by unfold eA;simp[h]
def lG(init:List UInt8)(n:Nat)(R:Nat->aK)(t:Nat):Nat:=gR init (iw n R) t
def Ku{t}(h:t<n):lG init n R (t+1)=lG init n R t+(R t).many:=by
 unfold lG;rw[gR,zu h,RH]
def Iz{t u}(h:t<=u):lG init n R t<=lG init n R u:=JM init _ h
def idx(init:List UInt8)(n:Nat)(R:Nat->aK)(a:Pt):Nat:=lG init n R a.1+a.2
abbrev dZ(init:List UInt8)(n:Nat)(R:Nat->aK):List aN:=bd init (iw n R)
def zA:(dZ init n R)=lG init n R n:=by unfold dZ bd lG;rw[wU,uC]
def abU{t q}(c:t<n)(a:q<(R t).many):∀k,t<k->k<=n->(jr init (iw n R) k)[lG init n R t+q]? =some ⟨(t:Int),(R t).ev q⟩:=by
 intro k
 induction k with
 |zero=>intro h;omega
 |succ k f=>
  intro g i;rw[I4,zu (by omega)];have b:(jr init (iw n R) k)=lG init n R k:=wU _ _ _;by_cases e:t=k
  .subst e;rw[kB (by omega),b,tE];unfold kO;rw[dG,R3 _ a];rfl
  grind
def SF{a}(b:a.1<n)(c:a.2<(R a.1).many):(dZ init n R)[idx init n R a]? =some ⟨(a.1:Int),(R a.1).ev a.2⟩:=by
 unfold dZ bd idx;rw[uC];exact abU b c n b (av _)
def x6{l:Nat}(h:l<init):(dZ init n R)[l]? =(kP l (init.getD l 0)):=by
 unfold dZ bd jr;unfold qS
 grind
def XT{i:Nat}(h:i<(dZ init n R)):i<init\/∃a:Pt,(a.1<n/\a.2<(R a.1).many)/\i=idx init n R a:=by
 rw[zA]at h;have:∀k,k<=n->i<lG init n R k->i<init\/∃a,(a.1<n/\a.2<(R a.1).many)/\i=idx init n R a:=by
  intro k
  induction k with
  |zero=>intro _ h;exact .inl h
  |succ k e=>
   intro b h;by_cases i<lG init n R k
   .grind
   rw[Ku (by omega)]at h;obtain⟨j,rfl⟩:∃j,i=lG init n R k+j:=⟨i-lG init n R k,by omega⟩
   have c:j<(R k).many:=by omega
   exact .inr ⟨(k,j),⟨b,c⟩,rfl⟩
 grind
def Oo{a}(b:a.1<n)(c:a.2<(R a.1).many):idx init n R a<(dZ init n R):=(bL.1 (SF b c)).1
def M9(a):init<=idx init n R a:=aO (Iz (aQ a.1)) (Nat.le_add_right _ _)
def Ta{a b}(c:a.1<n)(e:a.2<(R a.1).many)(h:a.1<b.1):idx init n R a<idx init n R b:=by
 have:=Ku (init:=init) (R:=R) c;have:=Iz (init:=init) (n:=n) (R:=R) (show a.1+1<=b.1 by omega);unfold idx;omega
def ab5{a b}(c:a.1<n)(e:a.2<(R a.1).many)(f:b.1<n)(i:b.2<(R b.1).many)(h:idx init n R a=idx init n R b):a=b:=by
 obtain g|g|g:=Nat.lt_trichotomy a.1 b.1
 .have:=Ta (init:=init) c e g;omega
 .unfold idx at h
  grind
 have:=Ta (init:=init) f i g;omega
def Kc(n:Nat)(R:Nat->aK)(a:Pt):Prop:=a.1<n/\a.2<(R a.1).many
def mQ{a}:Kc n R a↔(g n R).In a:=⟨fun h=>(rK h.1).2 h.2,fun h=>⟨Eh h,(rK (Eh h)).1 h⟩⟩
def abH{a}(h:Kc n R a):cw (dZ init n R) (idx init n R a)=⟨(a.1:Int),(g n R).ev a⟩:=by
 unfold cw;rw[bj,SF h.1 h.2,EW (mQ.1 h)];rfl
def acg{l:Nat}(h:l<init):cw (dZ init n R) l=kP l (init.getD l 0):=by
 unfold cw;rw[bj,x6 h];rfl
def DG{a:List aN}{i:Nat}(h:i<a):kK a i=(cw a i).C:=by
 unfold kK;rw[jl h]
end
def abd(F)(i):∀m,m<=64->∀j,(jX F i m).getLsbD j=decide (j<m/\i<j/\kK F j=kK F i/\kK F i≠ -1):=by
 intro m
 induction m with
 |zero=>intro _ j;simp[jX]
 |succ m a=>
  intro b j;unfold jX;rw[iU,a (by omega)];by_cases e:j=m
  .subst e;split
   .rename_i h;rw[Bv.ik j j (by omega)];simp[h]
   grind
  have e2:(if i<m/\kK F m=kK F i/\kK F i≠ -1 then Bv.bit m else 0#64).getLsbD j=false:=by
   split
   .rw[Bv.ik m j (by omega)]
    grind
   grind
  grind
def YU{F}(a:F.length<=48)(i j):Rl.bit (oP F) i j=true↔i<j/\j<F/\kK F j=kK F i/\kK F i≠ -1:=by
 unfold Rl.bit oP pO;split
 .rw[abd _ _ _ (by omega),jF];omega
 grind
def MW(f)(k)(s)(i j):Rl.bit (ew f k s) i j=if i=k then s.getLsbD j else Rl.bit f i j:=by
 unfold Rl.bit ew
 grind
def Qg(off):∀(ps:List (Nat×Nat))(f:Rl.Rows)(i j:Nat),(∀q∈ps,off+q.2<64)->(Rl.bit (eU f off ps) i j=true↔Rl.bit f i j=true\/∃q∈ps,i=off+q.1/\j=off+q.2)
 |[],f,i,j,_=>by simp[eU]
 |q::ps,f,i,j,h=>by
  unfold eU;rw[Qg off ps _ i j fun x a=>h x (kU _ a),MW];have e1:(if i=off+q.1 then(f (off+q.1)|||Bv.bit (off+q.2)).getLsbD j else Rl.bit f i j)=true↔Rl.bit f i j=true\/i=off+q.1/\j=off+q.2:=by
   split
   .rename_i e;rw[iU,jW,Bv.ik _ _ (h q rX),jF,e];unfold Rl.bit;simp
   grind
  grind
def ZI(ss)(x):x∈pk ss↔x.2<ss/\(ss.getD x.2 0).getLsbD x.1=true:=by
 unfold pk mW;have:∀(s:BitVec 32)(j:Nat),j∈jE s↔s.getLsbD j=true:=fun s j=>by
  unfold jE;rw[Bs.pH,Kf]
 grind
end
def MF:∀{ns a:List Nat},a.length=ns.length->(∀(j d n:Nat),a[j]? =some d->ns[j]? =some n->d<n)->a∈dL ns
 |[],[],_,_=>by simp[dL]
 |[],_::_,h,_=>by simp at h
 |_::_,[],h,_=>by simp at h
 |n::ns,d::a,h,b=>by
  exact mR.2 ⟨d,fS.2 (b 0 d n rfl rfl),bX.2 ⟨a,MF (by grind) fun j e m c f=>b (j+1) e m c f,rfl⟩⟩
def Zx{l:List Nat}{a}:l.idxOf a<l.length↔a∈l:=R7
def FC{l:List Nat}{a}(h:a∈l):l[l.idxOf a]? =some a:=by
 grind
def CD{l:List Nat}(b:l.Nodup){k a}(h:l[k]? =some a):l.idxOf a=k:=by
 grind
def idx_eq{l:List Nat}{a b}(c:a∈l)(e:b∈l)(h:l.idxOf a=l.idxOf b):a=b:=by
 have:=FC c
 grind
def adD{c x:List Nat}(f:c.Nodup)(g:x.Nodup)(i:∀k,k∈x↔k<c.length):(x.map fun k=>c.getD k 0).Nodup/\∀a,a∈(x.map fun k=>c.getD k 0)↔a∈c:=by
 refine⟨Bz.2 (g.imp_of_mem fun{a b} j m l e=>l ((List.getElem?_inj ((i a).1 j) f).1 (by grind))),fun a=>?_⟩;constructor
 .grind
 intro h;have:=FC h
 grind
def NX{n}(c:n<=48)(a b):Rl.bit (mN n) a b=true↔a=0/\0<b/\b<n:=by
 unfold mN;have e1:∀k,(1#64).getLsbD k=decide (k=0):=fun k=>by grind
 rw[Rl.Z1 c,e1,lF,cH,jF];constructor
 .grind
 rintro⟨rfl,f,e⟩;refine⟨by omega,e,rfl,?_,?_⟩
 .unfold mJ;rw[show Bv.bit (min (n:Int).toNat 64)-1#64=Rl.below (n:Int)from rfl,Rl.Sm _ _ (by omega),jF];omega
 rw[Bv.Ek _ _ (by omega),e1]
 grind
def R6{n}(a:n<=48):Rl.Ok n (mN n):=by unfold mN;exact Rl.CP a _ _
def TR{f g}(p:f.Nodup)(j:f.length<=48)(l:0<f.length):g∈eM f↔g.Nodup/\(∀a,a∈g↔a∈f)/\g.head?=f.head?:=by
 unfold eM;rw[bX];constructor
 .rintro⟨x,m,rfl⟩;have⟨n,i,q⟩:=(Rl.I9 (R6 j) x).1 m;have⟨r,s⟩:=adD p n i;refine⟨r,s,?_⟩;cases x with
  |nil=>exact absurd ((i 0).2 l) (by simp)
  |cons k x=>
   obtain rfl:k=0:=by
    apply ki;intro v;have:=q 0 k ((NX j 0 k).2 ⟨rfl,by omega,((i k).1 rX)⟩)
    grind
   cases f with
   |nil=>simp at l
   |cons a f=>rfl
 rintro⟨n,i,q⟩;have m:(g.map fun a=>f.idxOf a).Nodup:=Bz.2 (n.imp_of_mem fun{a b} t u o e=>o (idx_eq ((i a).1 t) ((i b).1 u) e));have u:∀k,k∈(g.map fun a=>f.idxOf a)↔k<f.length:=fun k=>by
  constructor
  .grind
  intro h;exact bX.2 ⟨f[k],(i _).2 (oM h),CD p (aI h)⟩
 refine⟨g.map fun a=>f.idxOf a,(Rl.I9 (R6 j) _).2 ⟨m,u,fun a b o=>?_⟩,?_⟩
 .obtain⟨rfl,r,s⟩:=(NX j a b).1 o;cases g with
  |nil=>
   grind
  |cons c g=>
   cases f with
   |nil=>simp at l
   |cons d f=>
    grind
 rw[pN]
 conv=>rhs;rw[<-List.map_id g]
 refine Br fun a t=>?_
 grind
def pz(l:List Nat)(a b:Nat):Prop:=a∈l/\b∈l/\l.idxOf a<l.idxOf b
def Sr(f):∀(l:List Nat),(∀a∈l,a<64)->∀j,(kg f l).2.getLsbD j=decide (j∈l)
 |[],_,j=>by simp[kg]
 |a::l,h,j=>by
  unfold kg;rw[iU,Sr f l (fun b c=>h b (kU _ c)),Bv.ik _ _ (h a rX),kG]
  grind
def OV(f):∀(l:List Nat),l.Nodup->(∀a∈l,a<64)->∀i j,Rl.bit (kg f l).1 i j=true↔if i∈l then pz l i j else Rl.bit f i j=true
 |[],_,_,i,j=>by simp[kg]
 |a::l,g,h,i,j=>by
  have⟨H,aA⟩:=lU.1 g;have c:=fun b m=>h b (kU _ m);unfold kg;rw[MW];by_cases e:i=a
  .subst e;rw[aq rfl,aq rX,Sr f l c,jF];unfold pz
   grind
  rw[O e,OV f l aA c];by_cases i∈l
  .unfold pz
   grind
  grind
structure Ld(F:List aN)(N:Nat)(s:Nat->Nat)(rk:Nat->List Nat):Prop where
 src:∀m r,(bu F)[m]? =some r->s m∈jK F r
 rk:∀l,l<N->rk l∈eM (bI F l)
def Uv{F}{N}{ds}(h:ds∈dL (iK F N)):Ld F N (mO F ds) (qv F (bu F).length ds):=by
 have⟨c,b⟩:=uM h;have:(iK F N).length=(bu F).length+N:=by unfold iK bF gg;simp
 refine⟨fun m r a=>?_,fun l e=>?_⟩
 .have:=(bL.1 a).1;have:(bF F)[m]? =some (jK F r):=by unfold bF;rw[dG,a];rfl
  have e2:(iK F N)[m]? =some (jK F r).length:=by
   unfold iK
   grind
  have:=b m (ds.getD m 0) _ (by grind) e2;unfold mO
  grind
 have:(iK F N)[(bu F).length+l]? =some (eM (bI F l)).length:=by
  unfold iK;rw[kB (by unfold bF;simp),dG];unfold bF gg
  grind
 unfold qv
 grind
def YV{a:List aN}{N:Nat}{s:Nat->Nat}{r:Nat->List Nat}(h:Ld a N s r):∃u,u∈dL (iK a N)/\(∀m,m<(bu a).length->mO a u m=s m)/\∀l,l<N->qv a (bu a).length u l=r l:=by
 have p:∀m,m<(bu a).length->∃d:Nat,d<((bF a).getD m []).length/\((bF a).getD m []).getD d 0=s m:=fun m i=>by
  have p:(bu a)[m]? =some (bu a)[m]:=aI i;have e:(bF a)[m]? =some (jK a (bu a)[m]):=by unfold bF;rw[dG,p];rfl
  rw[bj (l:=bF a),e,sH];have⟨d,q,b⟩:=iD (h.src m _ p);exact⟨d,q,by rw[bj,aI q,sH,b]⟩
 have w:∀l,l<N->∃d:Nat,d<(eM (bI a l)).length/\(eM (bI a l)).getD d []=r l:=fun l c=>by
  have⟨d,q,b⟩:=iD (h.rk l c);exact⟨d,q,by rw[bj,aI q,sH,b]⟩
 obtain⟨f,x⟩:∃f:Nat->Nat,∀m,m<(bu a).length->f m<((bF a).getD m []).length/\((bF a).getD m []).getD (f m) 0=s m:=
  ⟨fun m=>if i:m<(bu a).length then(p m i).choose else 0,fun m i=>by simp only[js i];exact(p m i).choose_spec⟩
 obtain⟨g,y⟩:∃g:Nat->Nat,∀l,l<N->g l<(eM (bI a l)).length/\(eM (bI a l)).getD (g l) []=r l:=
  ⟨fun l=>if c:l<N then(w l c).choose else 0,fun l c=>by simp only[js c];exact(w l c).choose_spec⟩
 have v:(bF a).length=(bu a).length:=by unfold bF;simp
 refine⟨(List.range (bu a).length).map f++(List.range N).map g,MF ?_ fun j d n o b=>?_,fun m i=>?_,fun l c=>?_⟩
 .unfold iK bF gg;simp
 .unfold iK at b;by_cases t:j<(bu a).length
  .rw[lE (by simpa using t),dG,pU t]at o;rw[lE (by rw[cV,v];exact t),dG,aI (by omega)]at b;obtain rfl:=aR o;obtain rfl:=aR b;have:=(x j t).1;rw[bj,aI (by omega)]at this;exact this
  rw[kB (by simp;omega),dG]at o;rw[kB (by rw[cV,v];omega),dG]at b;simp only[cV,pM,v]at o b;unfold gg at b;rw[dG]at b;by_cases c:j-(bu a).length<N
  .rw[pU c]at o b;obtain rfl:=aR o;obtain rfl:=aR b;exact(y _ c).1
  rw[od (by simpa using c)]at o;cases o
 .unfold mO;rw[bj (l:=_++_),lE (by simpa using i),dG,pU i];exact(x m i).2
 unfold qv;rw[bj (l:=_++_),kB (by simp),dG];simp only[cV,pM,tE,pU c];exact(y l c).2
namespace Rl
def ag9{L}{p q}{a c:Nat}(h:L=p++a::q)(b:L.Nodup)(e:c∈p):L.idxOf c<L.idxOf a:=by
 grind
end Rl
section
def YZ{n}{f}(b:Rl.Ok n f):sO n f=true↔∀a,¬Rl.Path f a a:=by
 unfold sO qG;rw[Rl.oC b,aq rfl,sf];exact Rl.N0 b
def aeQ{n}{f}(c:Rl.Ok n f):xz n f=true↔∀a b,Rl.bit f a b=false:=by
 unfold xz Fs;rw[Rl.oC c,aq rfl,sf,kQ,fg];exact Rl.agQ c
def O0{n}{u f g h}(c:Rl.Ok n u)(i:Rl.Ok n f)(j:Rl.Ok n g)(l:Rl.Ok n h)(a b):Rl.bit (uF n u f g h) a b=true↔Rl.bit u a b=true\/Rl.bit f a b=true\/Rl.bit g a b=true\/Rl.bit h a b=true:=by
 have e:uF n u f g h=Rl.rN n (Rl.rN n (Rl.rN n u f) g) h:=rfl;rw[e,Rl.Ir (Rl.xW (Rl.xW c i) j) l,Rl.Ir (Rl.xW c i) j,Rl.Ir c i]
 grind
def RO{n}{u f g h}(a:Rl.Ok n u)(b:Rl.Ok n f)(c:Rl.Ok n g)(e:Rl.Ok n h):Rl.Ok n (uF n u f g h):=Rl.xW (Rl.xW (Rl.xW a b) c) e
def Ke{n}(a:n<=48)(h)(i j):Rl.bit (pP n h) i j=true↔i<n/\j<n/\h i j=true:=by
 unfold Rl.bit;rw[RR (by omega)];simp
def Nh{F}{md}(e:F.length<=48)(i):(Du F md).getLsbD i=true↔i<F/\yf md (cw F i)=true:=by
 have key:∀(l:List Nat)(s:BitVec 64),(∀k∈l,k<64)->(((ints l).foldl (fun s z=>s|||Bv.bit z.toNat) s).getLsbD i=true↔s.getLsbD i=true\/i∈l):=by
  intro l
  induction l with
  |nil=>intro s _;simp[ints]
  |cons k l c=>
   intro s h;have:ints (k::l)=(k:Int)::ints l:=rfl;rw[this,KL,c _ fun j a=>h j (kU _ a),iU,jW,sf,Bv.ik _ _ (h k rX),fI]
   grind
 unfold Du vf;rw[key _ _ fun k a=>by have:=Ou a;omega,Bv.lu];unfold jJ;rw[nE,fS];constructor
 .rintro(h|⟨a,b⟩)
  .cases h
  rw[jl a]at b
  grind
 rintro⟨a,b⟩;rw[jl a]
 grind
def agx{F:List aN}{md}{po}(a:F.length<=48)(b:Rl.Ok F po)(i j):Rl.bit (ph F md po) i j=true↔∃f,Rl.bit po i f=true/\yf md (cw F f)=true/\Rl.bit po f j=true:=by
 unfold ph;rw[Rl.Av (Rl.Dw b (Rl.Ub a _))];constructor
 .rintro⟨f,c,h⟩;have⟨g,e,l⟩:=(Rl.Av b _ _).1 c;rw[Rl.RP _ _ _ _ ((b.cz _ _ e).2) a,cH,jF]at l;obtain⟨rfl,n⟩:=l;exact⟨f,e,((Nh a f).1 n).2,h⟩
 rintro⟨f,c,h,e⟩;have m:=(b.cz _ _ c).2;refine⟨f,(Rl.Av b _ _).2 ⟨f,c,?_⟩,e⟩;rw[Rl.RP _ _ _ _ m a,cH,jF];exact⟨rfl,(Nh a f).2 ⟨m,h⟩⟩
section
variable{X:XE}{F:List aN}
def rF(X:XE)(i j:Nat):Prop:=∃k,Rl.bit (X.row 1) k i=true/\Rl.bit (X.row 2) k j=true
def Dy(X:XE)(F:List aN)(i j:Nat):Prop:=Rl.bit (X.row 0) i j=true/\j3 (cw F i)=true/\j3 (cw F j)=true/\AB (ph F 3 (X.row 0)) (ph F 5 (X.row 0)) F i j=true
def C1(X:XE)(F:List aN)(i j:Nat):Prop:=(Rl.bit (X.row 0) i j=true/\pt (cw F i) (cw F j)=true)\/Rl.bit (X.row 1) i j=true\/Rl.bit (X.row 2) i j=true\/rF X i j
def C3(X:XE)(F:List aN)(i j:Nat):Prop:=Dy X F i j\/(Rl.bit (X.row 1) i j=true/\(cw F i).C≠(cw F j).C)\/Rl.bit (X.row 2) i j=true\/rF X i j
def IW(n:Nat)(C:Nat->Nat->Prop):Prop:=∃fR:Nat->Nat,(∀i j,C i j->fR i<fR j)/\∀i j,i<n->j<n->fR i=fR j->i=j
def NP{n}{f}(g:Rl.Ok n f){C}(h:∀i j,Rl.bit f i j=true↔C i j):(sO n f=true->IW n C)/\((∃fR:Nat->Nat,∀i j,C i j->fR i<fR j)->sO n f=true):=by
 constructor
 .intro m;unfold sO qG at m;rw[Rl.oC g,aq rfl,sf]at m;have⟨l,s⟩:=Qy.1 m;have⟨v,o,w⟩:=Rl.PH g s;refine⟨fun i=>l.idxOf i,fun i j t=>?_,fun i j r u e=>idx_eq ((o i).2 r) ((o j).2 u) e⟩;have r:=(h i j).2 t;have⟨p,q,e⟩:=O8 ((o j).2 (g.cz _ _ r).2)
  grind
 rintro⟨fR,u⟩;refine(YZ g).2 fun a p=>?_;have:=p.closed (T:=fun a b=>fR a<fR b) (fun a b r=>u a b ((h a b).1 r)) fun a b c=>lZ;omega
def OI(b:F.length<=48)(g:∀r,r<6->Rl.Ok F (X.row r)):(qp 4 X F=0->IW F (C1 X F)/\(∀i j,Rl.bit (X.row 5) i j=true->¬∃k,rF X i k/\Rl.bit (X.row 2) k j=true)/\IW F (C3 X F))/\
 ((∃k:Nat->Nat,∀i j,C1 X F i j->k i<k j)->(∀i j,Rl.bit (X.row 5) i j=true->¬∃k,rF X i k/\Rl.bit (X.row 2) k j=true)->(∃k:Nat->Nat,∀i j,C3 X F i j->k i<k j)->qp 4 X F=0):=by
 have l:=g 0 (dr rfl);have a:=g 1 (dr rfl);have c:=g 2 (dr rfl);have m:=g 5 (dr rfl);have f:Rl.Ok F (tf F X):=Rl.Dw (Rl.Fo a) c;have n:∀i j,Rl.bit (tf F X) i j=true↔rF X i j:=fun i j=>by
  unfold tf rF;rw[Rl.Av (Rl.Fo a)];simp only[Rl.abr a]
 have G:∀s k,Bv.G s k=s.getLsbD k:=fun _ _=>rfl;have v:∀i j,Rl.bit (Cx X F) i j=true↔Rl.bit (X.row 0) i j=true/\pt (cw F i) (cw F j)=true:=fun i j=>by
  unfold Cx;rw[Ke b];unfold zV;rw[cH,G];exact⟨fun h=>h.2.2,fun h=>⟨(l.cz _ _ h.1).1,(l.cz _ _ h.1).2,h⟩⟩
 have w:∀i j,Rl.bit (wH 4 X F) i j=true↔Rl.bit (X.row 1) i j=true/\(cw F i).C≠(cw F j).C:=fun i j=>by
  unfold wH;rw[O (dr rfl),Ke b];unfold s0;rw[cH,G,bne_iff_ne];exact⟨fun h=>h.2.2,fun h=>⟨(a.cz _ _ h.1).1,(a.cz _ _ h.1).2,h⟩⟩
 have x:∀i j,Rl.bit (wN 4 (X.row 0) F) i j=true↔Dy X F i j:=fun i j=>by
  unfold wN;rw[Ke b];unfold x9 AV Dy;rw[O (dr rfl),O (dr rfl),cH,cH,cH,G];exact⟨fun h=>h.2.2,fun h=>⟨(l.cz _ _ h.1).1,(l.cz _ _ h.1).2,h⟩⟩
 have o:Rl.Ok F (Cx X F):=AF b _;have p:Rl.Ok F (wH 4 X F):=AF b _;have q:Rl.Ok F (wN 4 (X.row 0) F):=AF b _;have⟨E,H⟩:=NP (C:=C1 X F) (RO o a c f) fun i j=>by rw[O0 o a c f,v,n];exact nY
 have⟨I,J⟩:=NP (C:=C3 X F) (RO q p c f) fun i j=>by rw[O0 q p c f,x,w,n];exact nY
 have:xz F (Rl.sI F (X.row 5) (Rl.lK F (tf F X) (X.row 2)))=true↔∀i j,Rl.bit (X.row 5) i j=true->¬∃k,rF X i k/\Rl.bit (X.row 2) k j=true:=by
  rw[aeQ (Rl.RF m)];constructor
  .rintro h i j y ⟨k,t,u⟩;have:=h i j;rw[(Rl.TF m i j).2 ⟨y,(Rl.Av f i j).2 ⟨k,(n i k).2 t,u⟩⟩]at this
   grind
  intro h i j;cases e:Rl.bit (Rl.sI F (X.row 5) (Rl.lK F (tf F X) (X.row 2))) i j with
  |false=>rfl
  |true=>
   have⟨z,A⟩:=(Rl.TF m i j).1 e;have⟨k,t,u⟩:=(Rl.Av f i j).1 A
   grind
 unfold qp;refine⟨fun h=>?_,fun a c z=>?_⟩
 .grind
 grind
end
end
section
theorem mem_reads{F}{j}:j∈bu F↔j<F.length/\(cw F j).ev.kind=1:=by
 unfold bu fT;rw[nE,fS];constructor
 .rintro⟨a,b⟩;rw[jl a]at b
  grind
 rintro⟨a,b⟩;rw[jl a]
 grind
theorem Xb(F):(bu F).Nodup:=OK BW MM
theorem sR{F}{l i}:i∈bI F l↔i<F.length/\(cw F i).ev.kind=2/\(cw F i).ev.loc.toNat=l:=by
 unfold bI il;rw[nE,fS];constructor
 .rintro⟨a,b⟩;rw[jl a]at b
  grind
 rintro⟨a,b⟩;rw[jl a]
 grind
theorem Df(F)(l):(bI F l).Nodup:=OK BW MM
theorem Qj(F)(l):(bI F l).length<=F.length:=vy F F.length l
theorem TP{F}{r i}(c:r<F.length):i∈jK F r↔i∈bI F (cw F r).ev.loc.toNat/\(cw F i).ev.val=(cw F r).ev.val:=by
 unfold jK;rw[jl c];unfold pI;rw[nE];constructor
 .rintro⟨a,b⟩;rw[jl (sR.1 a).1]at b
  grind
 rintro⟨a,b⟩;rw[jl (sR.1 a).1]
 grind
section
variable{init:List UInt8}{n:Nat}{R:Nat->aK}
theorem ZE{P}{l:List Nat}{a}(c:l.Pairwise (·<·))(e:a∈l)(f:P a=true)(h:∀b∈l,b<a->P b=false):(l.filter P).head?=some a:=by
 induction l with
 |nil=>cases e
 |cons b l g=>
  have⟨i,j⟩:=lU.1 c
  grind
theorem LQ(h6:init.length<=6){l}(hl:l<init.length):(bI (dZ init n R) l).head?=some l:=by
 have a:l<(dZ init n R).length:=(bL.1 (x6 hl)).1;refine ZE GW (fS.2 a) ?_ fun b _ c=>?_
 .rw[x6 hl];simp[kP];omega
 rw[x6 (by omega)];simp[kP];omega
variable{ds:List Nat}
abbrev xR(init:List UInt8)(n:Nat)(R:Nat->aK)(ds:List Nat):XE:=oE (fU init (iw n R)) (dZ init n R) init.length ds
abbrev ua(init:List UInt8)(n:Nat)(R:Nat->aK)(ds:List Nat):Nat->List Nat:=qv (dZ init n R) (bu (dZ init n R)).length ds
def Ks(init:List UInt8)(n:Nat)(R:Nat->aK)(ds:List Nat)(j:Nat):Nat:=mO (dZ init n R) ds ((bu (dZ init n R)).idxOf j)
theorem xI(X)(F)(N):(∀r,(oE X F N ds).row r=if r=2 then sE X F (bu F).length ds N else if r=1 then sw X F ds (bu F).length else X.row r)/\(oE X F N ds).mem=yK X F (bu F).length ds N/\(oE X F N ds).L=X.L:=by
 unfold oE ms lf setRow;exact⟨fun r=>rfl,rfl,rfl⟩
theorem Ph:(xR init n R ds).row 0=oP (dZ init n R):=by
 rw[(xI _ _ _).1 0,O (dr rfl),O (dr rfl)];rfl
theorem X8:(xR init n R ds).n=((dZ init n R).length:Int):=by
 unfold xR oE ms lf fU dw;rw[zA,uC];rfl
theorem WI{X}{F}(g:X.row 1=E)(l:∀j∈bu F,j<64)(i j):∀k,k<=(bu F).length->(Rl.bit (sw X F ds k) i j=true↔∃m,m<k/\(bu F)[m]? =some j/\i=mO F ds m):=by
 intro k
 induction k with
 |zero=>
  intro _;unfold sw;rw[g];unfold Rl.bit E;rw[Bv.lu];constructor
  .intro h;cases h
  omega
 |succ k o=>
  intro p;have b:(bu F)[k]? =some ((bu F).getD k 0):=by rw[bj,aI (by omega)];rfl
  unfold sw;rw[MW];have e1:(if i=mO F ds k then(sw X F ds k (mO F ds k)|||Bv.bit ((bu F).getD k 0)).getLsbD j else Rl.bit (sw X F ds k) i j)=true↔Rl.bit (sw X F ds k) i j=true\/i=mO F ds k/\j=(bu F).getD k 0:=by
   split
   .rename_i e;rw[iU,jW,Bv.ik _ _ (l _ (cB b)),jF,e];unfold Rl.bit;simp
   rename_i e;simp[e]
  rw[e1,o (by omega)];constructor
  .rintro(⟨m,c,a⟩|⟨c,a⟩)
   .exact⟨m,by omega,a⟩
   exact⟨k,qW _,by rw[a];exact b,c⟩
  rintro⟨m,c,a,f⟩;by_cases e:m=k
  .subst e;rw[b]at a;exact .inr ⟨f,(aR a).s⟩
  exact .inl ⟨m,by omega,a,f⟩
theorem Ka{r}(h:r=1\/r=2):(fU init (iw n R)).row r=E:=by
 unfold fU dw setRow P
 grind
theorem Vw(hl:(dZ init n R).length<=48)(i j):Rl.bit ((xR init n R ds).row 1) i j=true↔j∈bu (dZ init n R)/\i=Ks init n R ds j:=by
 rw[(xI _ _ _).1 1,O (dr rfl),aq rfl,WI (Ka (.inl rfl)) (fun j a=>by have:=(mem_reads.1 a).1;omega) i j _ (av _)];unfold Ks;constructor
 .rintro⟨m,_,a,b⟩;exact⟨cB a,by rw[CD (Xb _) a];exact b⟩
 grind
variable(h6:init.length<=6)(hl:(dZ init n R).length<=48)(hds:ds∈dL (iK (dZ init n R) init.length))
include h6 hl hds in
theorem MT{l:Nat}(c:l<init.length):(ua init n R ds l).Nodup/\(∀a,a∈ua init n R ds l↔a∈bI (dZ init n R) l)/\(ua init n R ds l).head?=some l:=by
 have f:=(Uv hds).rk l c;have g:0<(bI (dZ init n R) l).length:=by
  have:=LQ (n:=n) (R:=R) h6 c;cases e:bI (dZ init n R) l with
  |nil=>rw[e]at this;cases this
  |cons a b=>simp
 have:=(TR (Df _ _) (aO (Qj _ _) hl) g).1 f;rw[LQ h6 c]at this;exact this
include h6 hl hds in
theorem acD(i j:Nat):Rl.bit ((xR init n R ds).row 2) i j=true↔∃l,l<init.length/\pz (ua init n R ds l) i j:=by
 have key:∀k,k<=init.length->(Rl.bit (sE (fU init (iw n R)) (dZ init n R) (bu (dZ init n R)).length ds k) i j=true↔∃l,l<k/\pz (ua init n R ds l) i j):=by
  intro k
  induction k with
  |zero=>
   intro _;unfold sE;rw[Ka (.inr rfl)];unfold Rl.bit E;rw[Bv.lu];constructor
   .intro h;cases h
   rintro⟨m,h,_⟩;omega
  |succ k g=>
   intro q;have⟨o,r,_⟩:=MT h6 hl hds (l:=k) (by omega);have c:∀{l a},l<init.length->a∈ua init n R ds l->a<(dZ init n R).length/\(cw (dZ init n R) a).ev.loc.toNat=l:=fun h f=>by
    have:=sR.1 (((MT h6 hl hds h).2.1 _).1 f);exact⟨this.1,this.2.2⟩
   unfold sE;rw[OV _ _ o (fun a f=>by have:=(c (by omega) f).1;omega),g (by omega)];constructor
   .intro h;split at h
    .exact⟨k,qW _,h⟩
    obtain⟨l,p,b⟩:=h;exact⟨l,by omega,b⟩
   rintro⟨l,p,b⟩;by_cases e:l=k
   .subst e;rw[aq b.1];exact b
   rw[O fun h=>e ((c (by omega) b.1).2.s.t (c (by omega) h).2)];exact⟨l,by omega,b⟩
 rw[(xI _ _ _).1 2,aq rfl];exact key _ (av _)
theorem Mt{l}(h:l<6):(xR init n R ds).mem l=if l<init.length then qF (dZ init n R) (oA (ua init n R ds l))else 0:=by
 have:∀k,yK (fU init (iw n R)) (dZ init n R) (bu (dZ init n R)).length ds k l=if l<k then qF (dZ init n R) (oA (ua init n R ds l))else 0:=by
  intro k
  induction k with
  |zero=>unfold yK fU dw;rfl
  |succ k a=>
   unfold yK P
   grind
 rw[(xI _ _ _).2.1]
 grind
theorem UX(j):(xR init n R ds).L j=if j<8*n then(R (j/8)).L (j%8)else 0:=by
 rw[(xI _ _ _).2.2];unfold fU dw;show DZ (iw n R) (iw n R).length j=_;unfold DZ;rw[uC];split
 .rw[zu (by omega)];rfl
 rfl
theorem aaQ(hl:(dZ init n R).length<=48)(eW)(f:Ev->BitVec 32)(m:∀r,eW (eA r)=pk ((List.range r.many).map fun q=>f (r.ev q)))(i j):∀k,k<=n->(Rl.bit (ma eW init (iw n R) k) i j=true↔∃t q g,t<k/\q<(R t).many/\(f ((R t).ev q)).getLsbD g=true/\i=idx init n R (t,g)/\j=idx init n R (t,q)):=by
 intro k
 induction k with
 |zero=>
  intro _;unfold ma Rl.bit E
  grind
 |succ k o=>
  intro p;unfold ma;have h:∀q,q∈eW ((iw n R).getD k jU)↔q.2<(R k).many/\(f ((R k).ev q.2)).getLsbD q.1=true:=fun q=>by
   rw[zu (by omega),m,ZI]
   grind
  rw[Qg _ _ _ _ _ fun q l=>?_,o (by omega)]
  .constructor
   .rintro(⟨t,q,g,a,b⟩|⟨q,l,a,b⟩)
    .grind
    have⟨c,d⟩:=(h q).1 l;exact⟨k,q.2,q.1,qW _,c,d,a,b⟩
   rintro⟨t,q,g,a,b,c,d,e⟩;by_cases e2:t=k
   .subst e2;exact .inr ⟨(g,q),(h _).2 ⟨b,c⟩,d,e⟩
   grind
  have:=(h q).1 l;have g:=Oo (init:=init) (n:=n) (R:=R) (a:=(k,q.2)) (by omega) this.1;have g:lG init n R k+q.2<(dZ init n R).length:=g;show lG init n R k+q.2<64;omega
end
end
section
structure cG(p:a8)(vs:List UInt8)(R:Nat->aK)(ds:List Nat):Prop where
 pv:cO p
 rt:∀t,t<p.h.length->Rt (bH p t) vs (R t)/\(bH p t).length<=(R t).pc
 len:(dZ p.init p.h.length R).length<=48
 ds:ds∈dL (iK (dZ p.init p.h.length R) p.init.length)
section
variable(p:a8)(R:Nat->aK)(ds:List Nat)
abbrev IX(a:Pt):Nat:=idx p.init p.h.length R a
abbrev W:List aN:=dZ p.init p.h.length R
abbrev XX:XE:=xR p.init p.h.length R ds
abbrev AM:Am:=g p.h.length R
abbrev IN(a:Pt):Prop:=Kc p.h.length R a
abbrev RK(l:Nat):List Nat:=ua p.init p.h.length R ds l
abbrev SR(a:Pt):Nat:=Ks p.init p.h.length R ds (IX p R a)
def W3(a:Pt):Prop:=(AM p R).kd a=2/\(AM p R).md a=3
end
section
variable{p:a8}{vs:List UInt8}{R:Nat->aK}{ds:List Nat}
def cG.Hv(f:cG p vs R ds):p.init.length<=6:=by rw[f.pv.init];exact f.pv.iG
def tr{p}{t}(a:t<p.h.length):bH p t∈p.h:=by
 unfold bH
 grind
def cG.inv(f:cG p vs R ds){t}(g:t<p.h.length):kX p.N (R t):=((f.rt t g).1.inv f.pv (tr g)).2
def cG.m24(f:cG p vs R ds){t}(g:t<p.h.length):(R t).many<=24:=by
 have h:=((f.rt t g).1.inv f.pv (tr g)).1;have:=h.many;have:=h.pc;have:=zB f.pv t;omega
def cG.sq(g:cG p vs R ds){a}(f:IN p R a):za p.N (R a.1).ev a.2:=(g.inv f.1).ev a.2 f.2
def qq{a}(b:IN p R a):(AM p R).ev a=(R a.1).ev a.2:=EW (mQ.1 b)
def IN.at{a}(f:IN p R a):cw (W p R) (IX p R a)=⟨(a.1:Int),(AM p R).ev a⟩:=abH f
def IN.lt{a}(f:IN p R a):IX p R a<(W p R).length:=Oo f.1 f.2
def j9{a b}(c:IN p R a)(e:IN p R b)(h:IX p R a=IX p R b):a=b:=ab5 c.1 c.2 e.1 e.2 h
def Hi{i}(h:i<(W p R).length):i<p.init.length\/∃a,IN p R a/\i=IX p R a:=XT h
def sF{l}(h:l<p.init.length):cw (W p R) l=kP l (p.init.getD l 0):=acg h
def pu{l}(h:l<p.init.length)(a):l≠IX p R a:=fun e=>n9 _ (aW h (e▸M9 a))
def cG.lo(f:cG p vs R ds){a}(g:IN p R a)(i:(AM p R).kd a=1\/(AM p R).kd a=2):(AM p R).lo a<p.init.length:=by
 unfold Am.kd at i;unfold Am.lo;rw[qq g]at i⊢;rw[f.pv.init];obtain h|h:=(f.sq g).kind
 .exact h.2
 grind
def Da{i}:i∈bu (W p R)↔∃a,IN p R a/\(AM p R).kd a=1/\i=IX p R a:=by
 rw[mem_reads];constructor
 .rintro⟨e,c⟩;obtain h|⟨a,b,rfl⟩:=Hi e
  .rw[sF h]at c;exact Am.ij c rfl
  rw[b.at]at c;exact⟨a,b,c,rfl⟩
 rintro⟨a,b,h,rfl⟩;exact⟨b.lt,by rw[b.at];exact h⟩
def wj(p:a8)(R:Nat->aK)(l i:Nat):Prop:=i=l\/∃a,IN p R a/\(AM p R).kd a=2/\(AM p R).lo a=l/\i=IX p R a
def FH{l i}(g:cO p)(f:l<p.init.length):i∈bI (W p R) l↔wj p R l i:=by
 have:p.init.length<=6:=by rw[g.init];exact g.iG
 unfold wj;rw[sR];constructor
 .rintro⟨j,e,b⟩;obtain h|⟨a,c,rfl⟩:=Hi j
  .rw[sF h]at b;have b:(UInt8.ofNat i).toNat=l:=b;rw[pw]at b;omega
  rw[IN.at c]at e b;exact .inr ⟨a,c,e,b,rfl⟩
 rintro(rfl|⟨a,c,e,b,rfl⟩)
 .refine⟨(bL.1 (x6 (n:=p.h.length) (R:=R) f)).1,?_,?_⟩
  .rw[sF f];rfl
  rw[sF f];show(UInt8.ofNat i).toNat=i;rw[pw];omega
 exact⟨c.lt,by rw[c.at];exact e,by rw[c.at];exact b⟩
def cG.rU(f:cG p vs R ds){l i}(g:l<p.init.length):i∈bI (W p R) l↔wj p R l i:=FH f.pv g
def cG.rk(f:cG p vs R ds){l}(g:l<p.init.length):(RK p R ds l).Nodup/\(∀i,i∈RK p R ds l↔wj p R l i)/\(RK p R ds l).head?=some l:=by
 have⟨h,o,r⟩:=MT f.Hv f.len f.ds g;exact⟨h,fun i=>by rw[o,f.rU g],r⟩
def cG.rp(y:cG p vs R ds)(i j):Rl.bit ((XX p R ds).row 0) i j=true↔∃a b,IN p R a/\IN p R b/\i=IX p R a/\j=IX p R b/\a.1=b.1/\a.2<b.2:=by
 rw[Ph,YU y.len];constructor
 .rintro⟨u,r,f,w⟩;rw[DG (by omega)]at w;rw[DG r,DG (by omega)]at f;obtain h|⟨a,g,rfl⟩:=Hi (p:=p) (R:=R) (lZ u r)
  .rw[sF h]at w;exact absurd rfl w
  obtain h|⟨b,o,rfl⟩:=Hi r
  .rw[sF h,g.at]at f;have f:(-1:Int)=(a.1:Int):=f;omega
  rw[g.at,o.at]at f;unfold IX idx at u
  grind
 rintro⟨a,b,g,o,rfl,rfl,u,r⟩;rw[DG g.lt,DG o.lt,g.at,o.at];refine⟨?_,o.lt,?_,?_⟩
 .unfold IX idx
  grind
 .grind
 grind
def cG.uE(f:cG p vs R ds)(i j):Rl.bit ((XX p R ds).row 1) i j=true↔∃b,IN p R b/\(AM p R).kd b=1/\j=IX p R b/\i=SR p R ds b:=by
 rw[Vw f.len,Da]
 grind
def cG.src(g:cG p vs R ds){r}(f:IN p R r)(h:(AM p R).kd r=1):wj p R ((AM p R).lo r) (SR p R ds r)/\(cw (W p R) (SR p R ds r)).ev.val=((AM p R).ev r).val:=by
 have:=(Uv g.ds).src _ _ (FC (Da.2 ⟨r,f,h,rfl⟩));have:=(TP f.lt).1 this;rw[f.at]at this;exact⟨(g.rU (g.lo f (.inl h))).1 this.1,this.2⟩
def cG.rQ(f:cG p vs R ds)(i j):Rl.bit ((XX p R ds).row 2) i j=true↔∃l,l<p.init.length/\pz (RK p R ds l) i j:=acD f.Hv f.len f.ds i j
def Ec(c:cG p vs R ds){r}{eW}{f}(a:r=3/\eW=Path.data/\f=Ev.data\/r=4/\eW=Path.A/\f=Ev.A\/r=5/\eW=Path.dP/\f=Ev.ff)(i j):
 Rl.bit ((XX p R ds).row r) i j=true↔∃t q b,t<p.h.length/\q<(R t).many/\(f ((R t).ev q)).getLsbD b=true/\i=IX p R (t,b)/\j=IX p R (t,q):=by
 have e:(XX p R ds).row r=ma eW p.init (iw p.h.length R) p.h.length:=by
  rw[(xI _ _ _).1 r];unfold fU dw;obtain⟨rfl,rfl,_⟩|⟨rfl,rfl,_⟩|⟨rfl,rfl,_⟩:=a<;>rw[O (dr rfl),O (dr rfl),uC]<;>rfl
 rw[e];refine aaQ c.len eW f (fun r=>?_) i j _ (av _);obtain⟨_,rfl,rfl⟩|⟨_,rfl,rfl⟩|⟨_,rfl,rfl⟩:=a<;>rfl
def cG.w3(h:cG p vs R ds){a}(f:IN p R a)(g:W3 p R a):1<=a.2/\IN p R (a.1,a.2-1)/\(AM p R).kd (a.1,a.2-1)=1/\(AM p R).lo (a.1,a.2-1)=(AM p R).lo a/\(AM p R).md (a.1,a.2-1)=3/\((R a.1).ev a.2).ff=iM (a.2-1):=by
 have hi:IN p R (a.1,a.2-1):=⟨f.1,by have:=f.2;show a.2-1<(R a.1).many;omega⟩
 unfold W3 Am.kd Am.md at g;rw[qq f]at g;obtain⟨i,A,o,r,u,w,y⟩|⟨i,_⟩:=(h.sq f).ff
 .refine⟨o,hi,?_,?_,?_,y⟩
  .unfold Am.kd;rw[qq hi];exact r
  .unfold Am.lo;rw[qq hi,qq f,u]
  unfold Am.md;rw[qq hi];exact w
 grind
def cG.AJ(g:cG p vs R ds)(i j):Rl.bit ((XX p R ds).row 5) i j=true↔∃a,IN p R a/\W3 p R a/\i=IX p R (a.1,a.2-1)/\j=IX p R a:=by
 rw[Ec g (.inr (.inr ⟨rfl,rfl,rfl⟩))];constructor
 .rintro⟨t,q,C,h,o,r,rfl,rfl⟩;have f:IN p R (t,q):=⟨h,o⟩
  have E:q<32:=by have:=g.m24 h;omega
  obtain⟨u,F,g3,H,I,J,w⟩|⟨_,u⟩:=(g.sq f).ff
  .refine⟨(t,q),f,?_,?_,rfl⟩
   .unfold W3 Am.kd Am.md;rw[qq f]
    grind
   rw[w,FI _ _ (by omega)]at r
   grind
  grind
 rintro⟨a,f,y,rfl,rfl⟩;have⟨h,_,_,_,_,A⟩:=g.w3 f y;have:a.2<32:=by have:=g.m24 f.1;have:=f.2;omega
 exact⟨a.1,a.2,a.2-1,f.1,f.2,by rw[A,FI _ _ (by omega)];simp,rfl,rfl⟩
def cG.rows(g:cG p vs R ds):∀r,r<6->Rl.Ok (W p R).length ((XX p R ds).row r):=by
 intro r I;refine⟨g.len,fun i j h=>?_⟩;have wr:∀{l i:Nat},l<p.init.length->wj p R l i->i<(W p R).length:=fun u h=>(sR.1 ((g.rU u).2 h)).1;have dp:∀{f:Ev->BitVec 32},(∀a,IN p R a->dV a.2 (R a.1).ev (f ((R a.1).ev a.2)))->(∃t q o,t<p.h.length/\q<(R t).many/\(f ((R t).ev q)).getLsbD o=true/\i=IX p R (t,o)/\j=IX p R (t,q))->i<(W p R).length/\j<(W p R).length:=by
  rintro f E ⟨t,q,o,w,A,F,rfl,rfl⟩;have:=(E (t,q) ⟨w,A⟩ o F).1;have hi:IN p R (t,o):=⟨w,by grind⟩
  exact⟨hi.lt,IN.lt ⟨w,A⟩⟩
 have:r=0\/r=1\/r=2\/r=3\/r=4\/r=5:=by omega
 obtain rfl|rfl|rfl|rfl|rfl|rfl:=this
 .obtain⟨a,b,o,y,rfl,rfl,_⟩:=(g.rp i j).1 h;exact⟨o.lt,y.lt⟩
 .obtain⟨b,y,C,rfl,rfl⟩:=(g.uE i j).1 h;exact⟨wr (g.lo y (.inl C)) (g.src y C).1,y.lt⟩
 .have⟨l,u,w,A,_⟩:=(g.rQ i j).1 h;exact⟨wr u (((g.rk u).2.1 i).1 w),wr u (((g.rk u).2.1 j).1 A)⟩
 .exact dp (fun a o=>(g.sq o).data) ((Ec g (.inl ⟨rfl,rfl,rfl⟩) i j).1 h)
 .exact dp (fun a o=>(g.sq o).A) ((Ec g (.inr (.inl ⟨rfl,rfl,rfl⟩)) i j).1 h)
 obtain⟨a,o,H,rfl,rfl⟩:=(g.AJ i j).1 h;exact⟨(g.w3 o H).2.1.lt,o.lt⟩
end
end
section
section
variable{p:a8}{vs:List UInt8}{R:Nat->aK}{ds:List Nat}{r3:Nat->Nat}
def rv(p:a8)(R:Nat->aK)(a:Pt):Prop:=(AM p R).kd a=1/\IN p R (a.1,a.2+1)/\W3 p R (a.1,a.2+1)
open Classical in
noncomputable def vg(p:a8)(R:Nat->aK)(a:Pt):Pt:=if rv p R a then(a.1,a.2+1)else a
open Classical in
noncomputable def yo(p:a8)(R:Nat->aK)(r3:Nat->Nat)(a:Pt):Nat:=2*r3 (IX p R (vg p R a))+if W3 p R a then 1 else 0
open Classical in
noncomputable def sy(p:a8)(R:Nat->aK)(i:Nat):Option Pt:=if h:∃a,IN p R a/\i=IX p R a then some h.choose else none
theorem L8{a:Pt}(c:IN p R a):sy p R (IX p R a)=some a:=by
 have h:∃b,IN p R b/\IX p R a=IX p R b:=⟨a,c,rfl⟩
 unfold sy;rw[js h];exact cs (j9 h.choose_spec.1 c h.choose_spec.2.s)
theorem TJ{l:Nat}(b:l<p.init.length):sy p R l=none:=by
 unfold sy;rw[tL];rintro⟨a,_,h⟩;exact pu b a h
theorem Q0{l}{i j}(a:i∈l)(b:j∈l)(h:i≠j):pz l i j\/pz l j i:=by
 obtain g|g|g:=Nat.lt_trichotomy (l.idxOf i) (l.idxOf j)
 .exact .inl ⟨a,b,g⟩
 .exact absurd (idx_eq a b g) h
 exact .inr ⟨b,a,g⟩
theorem Tt{l}{a j}(h:l.head?=some a)(c:j∈l)(e:j≠a):pz l a j/\¬pz l j a:=by
 cases l with
 |nil=>cases h
 |cons b l=>
  obtain rfl:b=a:=by grind
  have:(b::l).idxOf b=0:=Ut;refine⟨⟨rX,c,?_⟩,fun h=>?_⟩
  .grind
  have:=h.2.2;omega
variable(H:cG p vs R ds)
include H
theorem cG.wr{a}(f:IN p R a)(g:(AM p R).kd a=2):wj p R ((AM p R).lo a) (IX p R a):= .inr ⟨a,f,g,rfl,rfl⟩
theorem cG.Dk{a}(f:IN p R a)(g:(AM p R).kd a=2):IX p R a∈RK p R ds ((AM p R).lo a):=((H.rk (H.lo f (.inr g))).2.1 _).2 (H.wr f g)
theorem cG.Gy{l}(f:l<p.init.length){a}(g:IN p R a)(h:IX p R a∈RK p R ds l):(AM p R).kd a=2/\(AM p R).lo a=l:=by
 obtain e|⟨b,o,r,u,e⟩:=((H.rk f).2.1 _).1 h
 .exact absurd e.s (pu f a)
 obtain rfl:=j9 g o e
 grind
theorem cG.co{a b}(g:IN p R a)(f:IN p R b)(w:(AM p R).kd a=2)(o:(AM p R).kd b=2)(y:(AM p R).lo a=(AM p R).lo b)(A:a≠b):Rl.bit ((XX p R ds).row 2) (IX p R a) (IX p R b)=true\/Rl.bit ((XX p R ds).row 2) (IX p R b) (IX p R a)=true:=by
 have r:=H.Dk g w;have u:=H.lo f (.inr o);rw[y]at r;exact(Q0 r (H.Dk f o) fun e=>A (j9 g f e)).imp (fun h=>(H.rQ _ _).2 ⟨_,u,h⟩) fun h=>(H.rQ _ _).2 ⟨_,u,h⟩
theorem cG.jw{r:Pt}(f:IN p R r)(g:(AM p R).kd r=1):(SR p R ds r=(AM p R).lo r/\sy p R (SR p R ds r)=none)\/∃s,IN p R s/\(AM p R).kd s=2/\(AM p R).lo s=(AM p R).lo r/\SR p R ds r=IX p R s/\sy p R (SR p R ds r)=some s:=by
 obtain e|⟨s,h,o,h3,e⟩:=(H.src f g).1
 .exact .inl ⟨e,by rw[e];exact TJ (H.lo f (.inl g))⟩
 exact .inr ⟨s,h,o,h3,e,by rw[e];exact L8 h⟩
theorem cG.rf{r}(f:IN p R r)(g:(AM p R).kd r=1):Rl.bit ((XX p R ds).row 1) (SR p R ds r) (IX p R r)=true:=(H.uE _ _).2 ⟨r,f,g,rfl,rfl⟩
theorem cG.fr{r b:Pt}(f:IN p R r)(g:(AM p R).kd r=1)(o:IN p R b)(u:(AM p R).kd b=2)(w:(AM p R).lo b=(AM p R).lo r)(y:∀s,sy p R (SR p R ds r)=some s->b≠s/\¬Rl.bit ((XX p R ds).row 2) (IX p R b) (IX p R s)=true):rF (XX p R ds) (IX p R r) (IX p R b):=by
 refine⟨_,H.rf f g,?_⟩;have h:=H.lo f (.inl g);obtain⟨e,_⟩|⟨s,A,C,h3,e,E⟩:=H.jw f g
 .rw[e];have:=H.Dk o u;rw[w]at this;exact(H.rQ _ _).2 ⟨_,h,(Tt (H.rk h).2.2 this fun e=>pu h b e.s).1⟩
 rw[e];have⟨F,I⟩:=y s E;exact(H.co A o C u (h3.t w.s) fun e=>F e.s).resolve_right I
theorem cG.lc{a b}(f:IN p R a)(g:IN p R b)(h:a.1=b.1)(o:a.2<b.2)(r:(AM p R).kd a=1\/(AM p R).kd a=2)(u:(AM p R).kd b=1\/(AM p R).kd b=2)(w:(AM p R).lo a=(AM p R).lo b):C1 (XX p R ds) (W p R) (IX p R a) (IX p R b):=by
 refine .inl ⟨(H.rp _ _).2 ⟨a,b,f,g,rfl,rfl,h,o⟩,?_⟩;rw[f.at,g.at];have:=tR.1 w;unfold Am.kd at r u;unfold pt j3
 grind
theorem D9{a}(b:IN p R a):j3 (cw (W p R) (IX p R a))=true↔(AM p R).kd a=1\/(AM p R).kd a=2:=by
 rw[b.at];unfold j3 Am.kd;simp
theorem cG.xT(m){a b}(g:IN p R a)(h:IN p R b)(y:a.1=b.1):Rl.bit (ph (W p R) m ((XX p R ds).row 0)) (IX p R a) (IX p R b)=true↔(AM p R).td m a b:=by
 rw[agx H.len (H.rows 0 (dr rfl))];constructor
 .rintro⟨f,o,h3,r⟩;obtain⟨M,c,C,A,e1,rfl,u,E⟩:=(H.rp _ _).1 o;have⟨N,O,F,I,e2,J,P,L⟩:=(H.rp _ _).1 r;obtain rfl:=j9 g C e1;obtain rfl:=j9 A F e2;obtain rfl:=j9 h I J;rw[A.at]at h3;unfold yf at h3;rw[cH,fg,fg]at h3;obtain⟨c1,c2⟩:=c;obtain rfl:a.1=c1:=u;exact⟨c2,E,L,h3.1,h3.2⟩
 rintro⟨f,o,h3,r,u⟩;have w:IN p R (a.1,f):=⟨g.1,by have:=h.2;rw[<-y]at this;show f<(R a.1).many;omega⟩
 refine⟨IX p R (a.1,f),(H.rp _ _).2 ⟨a,(a.1,f),g,w,rfl,rfl,rfl,o⟩,?_,(H.rp _ _).2 ⟨(a.1,f),b,w,h,rfl,rfl,y,h3⟩⟩;rw[w.at];unfold yf;rw[cH,fg,fg];exact⟨r,u⟩
theorem cG.kp{a b}(f:IN p R a)(g:IN p R b)(u:a.1=b.1)(w:a.2<b.2)(o:(AM p R).kd a=1\/(AM p R).kd a=2)(r:(AM p R).kd b=1\/(AM p R).kd b=2):Dy (XX p R ds) (W p R) (IX p R a) (IX p R b)↔(AM p R).Kp a b:=by
 have e1:pt (cw (W p R) (IX p R a)) (cw (W p R) (IX p R b))=true↔(AM p R).lo a=(AM p R).lo b:=by
  rw[f.at,g.at];unfold Am.kd at o r;unfold pt j3 Am.lo;obtain o|o:=o<;>obtain r|r:=r<;>simp[o,r,tR]
 have G:∀s k,Bv.G s k=s.getLsbD k:=fun _ _=>rfl;have f3:=H.xT 3 f g u;have f5:=H.xT 5 f g u;unfold Rl.bit at f3 f5;unfold Dy AB wA vL oY Am.Kp;rw[D9 H f,D9 H g,G,G,jW,jW,cH,jW,jW,jW,f3,f5,e1,f.at,g.at,fg,fg,fg,fg];show _/\_/\_/\((AM p R).kd a=1\/(_\/(AM p R).md a=3\/(AM p R).md b=3)\/(AM p R).kd b=2/\_)↔_;constructor
 .grind
 intro h;refine⟨(H.rp _ _).2 ⟨a,b,f,g,rfl,rfl,u,w⟩,o,r,?_⟩
 grind
theorem ue{a:Pt}(h:rv p R a):vg p R a=(a.1,a.2+1):=aq h
theorem sj{a:Pt}(h:¬rv p R a):vg p R a=a:=O h
theorem FP{a}(h:W3 p R a):¬rv p R a:=fun b=>Am.ij b.1 h.1
variable(h3:∀i j,C3 (XX p R ds) (W p R) i j->r3 i<r3 j)
include h3
theorem ad0{a:Pt}(b:IN p R a):r3 (IX p R a)<=r3 (IX p R (vg p R a)):=by
 by_cases h:rv p R a
 .rw[ue H h];exact nu (h3 _ _ (.inl ((H.kp b h.2.1 rfl (qW _) (.inl h.1) (.inr h.2.2.1)).2 (.inl h.1))))
 rw[sj H h];exact av _
theorem PM(I:∀i j,Rl.bit ((XX p R ds).row 5) i j=true->¬∃k,rF (XX p R ds) i k/\Rl.bit ((XX p R ds).row 2) k j=true){a b:Pt}(n:IN p R a)(q:IN p R b)(m:(AM p R).kd b=1\/(AM p R).kd b=2)(h:C3 (XX p R ds) (W p R) (IX p R a) (IX p R b)):yo p R r3 a<yo p R r3 b:=by
 have:=ad0 H h3 q;unfold yo;by_cases f:rv p R a
 .have J:¬W3 p R a:=fun h=>Am.ij f.1 h.1;rw[ue H f,O J];have g:=f.2.2;by_cases e:b=(a.1,a.2+1)
  .subst e;rw[sj H (FP H g),aq g];omega
  have:r3 (IX p R (a.1,a.2+1))<r3 (IX p R b):=by
   refine h3 _ _ ?_;obtain h|h|h|⟨s,h,z⟩:=h
   .have⟨L,M,v,t,e1,e2,o,A⟩:=(H.rp _ _).1 h.1;obtain rfl:=j9 n v e1;obtain rfl:=j9 q t e2;have N:a.2+1<b.2:=by
     apply ki;intro C;apply e;obtain⟨P,w⟩:=b;have o:a.1=P:=o;have A:a.2<w:=A;have C:¬a.2+1<w:=C;rw[<-o,show w=a.2+1 by omega]
    exact .inl ((H.kp f.2.1 q o N (.inr g.1) m).2 (.inr (.inl g.2)))
   .have⟨M,t,E,e1,e2⟩:=(H.uE _ _).1 h.1;obtain⟨m,_⟩|⟨s,x,F,_,m,_⟩:=H.jw t E
    .exact absurd (m.s.t e2.s) (pu (H.lo t (.inl E)) a)
    obtain rfl:=j9 n x (e2.t m);exact Am.ij f.1 F
   .have⟨l,r,o,_⟩:=(H.rQ _ _).1 h;exact Am.ij f.1 (H.Gy r n o).1
   have⟨L,v,_,e1,e2⟩:=(H.uE _ _).1 h;obtain rfl:=j9 n v e1;have⟨l,r,u,Q,_⟩:=(H.rQ _ _).1 z;have⟨g3,T⟩:=H.Gy r q Q;have y:=(H.w3 f.2.1 g).2.2.2.1;have y:(AM p R).lo a=(AM p R).lo (a.1,a.2+1):=y;have X:l=(AM p R).lo a:=by
    obtain⟨m,_⟩|⟨ad,x,F,aa,m,_⟩:=H.jw n f.1
    .rw[e2,m]at u;obtain e|⟨c,_,_,_,e⟩:=((H.rk r).2.1 _).1 u
     .exact e.s
     exact absurd e (pu (H.lo n (.inl f.1)) c)
    rw[e2,m]at u;rw[<-(H.Gy r x u).2,aa]
   have ab:=(H.AJ _ _).2 ⟨_,f.2.1,g,rfl,rfl⟩;obtain n|n:=H.co f.2.1 q g.1 g3 (by rw[<-y,T,X]) (fun q=>e q.s)
   .exact .inr (.inr (.inl n))
   exact absurd ⟨_,⟨s,h,z⟩,n⟩ (I _ _ ab)
  split<;>omega
 rw[sj H f];have:=h3 _ _ h;split<;>split<;>omega
end
end
section
theorem XP{p}(i:cO p){ins}(j:ins∈p.h){Q}{r}(h:Rt ins Q r):∀q,q<r.many->(r.ev q).kind=3->∃x∈ins,x.op=7/\(r.ev q).mode=x.mode:=by
 induction h with
 |zero=>intro q c;exact absurd c (jD _)
 |@step r x v h f m n=>
  intro q c b;by_cases l:q<r.many
  .rw[C9 _ _ _ l]at b⊢
   grind
  have g:=(i.ins ins j _ _ f).ok;obtain a|a|a|a|a|a:=iY g.qf g.iY
  .have⟨e1,e2⟩:=Dc (r:=r) (v:=v) a;obtain rfl:q=r.many:=by omega
   exact Am.xa e2.kind b
  .have⟨e1,e2⟩:=vV (r:=r) (v:=v) a;obtain rfl:q=r.many:=by omega
   exact Am.wP e2.kind b
  .have⟨e1,e2⟩:=tC (r:=r) (v:=v) a;by_cases e:q=r.many
   .subst e;exact Am.xa e1.kind b
   revert e2;cases my r x v with
   |none=>intro e2;have e2:=e2;omega
   |some u=>
    intro e2;obtain rfl:q=r.many+1:=by omega
    exact Am.wP e2.2.kind b
  .have⟨e1,e2⟩:=xX (r:=r) (v:=v) a;obtain rfl:q=r.many:=by omega
   exact⟨x,cB f,a,e2.mode⟩
  .have:=y5 (r:=r) (v:=v) (.inl a);omega
  have:=y5 (r:=r) (v:=v) (.inr a);omega
def xZ(p:a8):Prop:=∀ins∈p.h,∀x∈ins,x.op=7->x.mode≠5
section
variable{p:a8}{vs:List UInt8}{R:Nat->aK}{ds:List Nat}{r1 r3:Nat->Nat}(H:cG p vs R ds)
include H
theorem cG.abz(X:∀i j,C1 (XX p R ds) (W p R) i j->r1 i<r1 j)(f:∀i j,Rl.bit ((XX p R ds).row 5) i j=true->¬∃k,rF (XX p R ds) i k/\Rl.bit ((XX p R ds).row 2) k j=true)
 (au:∀i j,C3 (XX p R ds) (W p R) i j->r3 i<r3 j)(y:∀i j,i<(W p R).length->j<(W p R).length->r3 i=r3 j->i=j)(aw:xZ p):
 se (bH p) p.h.length (w p) R (fun a=>sy p R (SR p R ds a)) (yo p R r3):=by
 have L:=fun{a b:Pt}=>PM (a:=a) (b:=b) H au f;have aa:∀{a},(AM p R).Ac a->IN p R a/\((AM p R).kd a=1\/(AM p R).kd a=2):=fun h=>⟨mQ.2 h.1,h.2⟩
 have al:∀{i j},Rl.bit ((XX p R ds).row 2) i j=true->C3 (XX p R ds) (W p R) i j:=fun h=> .inr (.inr (.inl h));refine⟨fun t ax=>?_,fun t x ay=>?_,fun a b g u e=>?_,fun t q am ad g u az=>?_,fun r f o=>?_,fun r s f o E=>?_,fun r b f o u F ae E=>?_,fun t q am ad f o an ae=>?_,fun t q g o M=>?_,fun a g o M=>?_⟩
 .have⟨af,N⟩:=H.rt t ax;exact(af.cv (.refl N)).cont
 .have⟨af,N⟩:=H.pv.NF t x ay;exact⟨N,af.qf,af.iY⟩
 .have⟨g,ao⟩:=aa g;have⟨u,F⟩:=aa u;have ag:∀{a},IN p R a->IN p R (vg p R a):=fun{a} g=>by
   by_cases h:rv p R a
   .rw[ue H h];exact h.2.1
   rw[sj H h];exact g
  unfold yo at e;have e1:vg p R a=vg p R b:=j9 (ag g) (ag u) (y _ _ (ag g).lt (ag u).lt (by split at e<;>split at e<;>omega));rw[e1]at e;have e2:W3 p R a↔W3 p R b:=by split at e<;>split at e<;>first|omega|simp[*]
  by_cases I:rv p R a<;>by_cases J:rv p R b
  .rw[ue H I,ue H J]at e1;obtain⟨aE,ap⟩:=a;obtain⟨aF,ar⟩:=b;obtain⟨rfl,e⟩:=yD e1;have e:ap+1=ar+1:=e;rw[show ap=ar by omega]
  .rw[ue H I,sj H J]at e1;exact absurd I (FP H (e2.2 (e1▸I.2.2)))
  .rw[sj H I,ue H J]at e1;exact absurd J (FP H (e2.1 (e1▸J.2.2)))
  rw[sj H I,sj H J]at e1;exact e1
 .have⟨g,ao⟩:=aa g;have⟨u,F⟩:=aa u;exact L g u F (.inl ((H.kp g u rfl ad ao F).2 az))
 .have f:=mQ.2 f;have ah:=(H.src f o).2;obtain⟨e1,e2⟩|⟨s,y,A,P,e1,e2⟩:=H.jw f o
  .simp only[e2];rw[e1,sF (H.lo f (.inl o))]at ah;exact ah.s
  simp only[e2];rw[e1,y.at]at ah;exact ah.s
 .have f:=mQ.2 f;obtain⟨_,e2⟩|⟨Q,y,A,P,e1,e2⟩:=H.jw f o
  .rw[e2]at E;cases E
  rw[e2]at E;obtain rfl:=aR E;have ai:=H.rf f o;rw[e1]at ai;refine⟨mQ.1 y,A,P,fun e=>?_,fun e=>?_⟩
  .apply ki;intro aj;have:Q.2≠r.2:=fun T=>by
    have:Q=r:=Prod.ext e T;rw[this]at A;exact Am.ij o A
   have:=X _ _ (H.lc f y e.s (by omega) (.inl o) (.inr A) P.s);have N:=X _ _ (.inr (.inl ai));omega
  refine L y f (.inl o) (.inr (.inl ⟨ai,?_⟩));rw[y.at,IN.at f];show(Q.1:Int)≠(r.1:Int);omega
 .have f:=mQ.2 f;have u:=mQ.2 u;refine L f u (.inr F) (.inr (.inr (.inr (H.fr f o u F ae fun s e=>?_))));have:=E s e;refine⟨fun T=>by rw[T]at this;omega,fun ak=>?_⟩;obtain⟨_,e2⟩|⟨Q,y,A,P,e1,e2⟩:=H.jw f o
  .rw[e2]at e;cases e
  rw[e2]at e;obtain rfl:=aR e;have:=L u y (.inr A) (al ak);omega
 .have f:=mQ.2 f;have C:IN p R (t,am):=⟨f.1,lZ ad f.2⟩
  have:=X _ _ (H.lc C f rfl ad (.inr an) (.inl o) ae);apply ki;intro aj;have:=X _ _ (.inr (.inr (.inr (H.fr f o C an ae fun s e=>?_))))
  .omega
  refine⟨fun T=>aj ⟨s,e,by rw[T];exact av _⟩,fun ak=>aj ⟨s,e,?_⟩⟩;obtain⟨_,e2⟩|⟨Q,y,A,P,e1,e2⟩:=H.jw f o
  .rw[e2]at e;cases e
  rw[e2]at e;obtain rfl:=aR e;exact nu (L C y (.inr A) (al ak))
 .have g:=mQ.2 g;have C:W3 p R (t,q+1):=⟨o,M⟩
  have⟨_,N,g3,_⟩:=H.w3 g C;have g3:(AM p R).kd (t,q)=1:=g3;have aA:rv p R (t,q):=⟨g3,g,C⟩
  unfold yo;rw[ue H aA,sj H (FP H C),aq C,O fun h:W3 p R (t,q)=>Am.ij g3 h.1]
 have g:=mQ.2 g;unfold Am.kd at o;unfold Am.md at M;rw[qq g]at o M;have⟨x,aB,aC,aD⟩:=XP H.pv (tr g.1) (H.rt _ g.1).1 _ g.2 o;exact aw _ (tr g.1) x aB aC (aD.s.t M)
theorem cG.last{l}(g:l<p.init.length):∃z,z∈RK p R ds l/\oA (RK p R ds l)=z/\∀i∈RK p R ds l,i≠z->Rl.bit ((XX p R ds).row 2) i z=true:=by
 have⟨o,u,w⟩:=H.rk g;have:0<(RK p R ds l).length:=by
  grind
 have f:(RK p R ds l)[(RK p R ds l).length-1]? =some (oA (RK p R ds l)):=by
  unfold oA
  grind
 refine⟨_,cB f,rfl,fun i hi r=>(H.rQ _ _).2 ⟨l,g,hi,cB f,?_⟩⟩;rw[CD o f];have:=Zx.2 hi;have:(RK p R ds l).idxOf i≠(RK p R ds l).length-1:=fun e=>r (by
  have h:=FC hi;rw[e,f]at h;exact(aR h).s)
 omega
theorem cG.fin{A}{M}(f:gD p A M)(g:dW p M)(i:∀t,t<p.h.length->A.run t=R t)(h:∀l,l<p.init.length->A.a.wv (w p) l (A.a.jV l)=qF (W p R) (oA (RK p R ds l))):ku (aB M)=rZ (XX p R ds):=by
 have:∀j,j<32->Aa (aB M) (j/8) (j%8)=(XX p R ds).L j:=by
  intro j o;unfold Aa;rw[mq,nA M (by omega) (by omega),UX];split
  .rw[f.cY _ (by omega) _ (by omega),i _ (by omega)]
  exact(g.off _ (by omega)).1 _
 have:∀l,l<6->zq (aB M) l=(XX p R ds).mem l:=by
  intro l h;unfold zq;rw[ox M h,Mt h];have:=H.pv.init;split
  .rw[f.mem l (by omega)]
   grind
  exact g.mem l (by omega)
 apply Je;show(List.range 32).map _++(List.range 6).map _=(List.range 32).map _++(List.range 6).map _;congr 1
 .simp_all
 simp_all
theorem cG.val{i}(hi:i<(W p R).length):qF (W p R) i=(cw (W p R) i).ev.val:=by unfold qF;rw[jl hi]
theorem cG.complete(g:qp 4 (XX p R ds) (W p R)=0)(T:xZ p):∃M,gA p M/\di p M=[]/\ku (aB M)=rZ (XX p R ds):=by
 have⟨⟨r1,X,_⟩,F,r3,I,aa⟩:=(OI H.len H.rows).1 g;have ad:=H.abz X F I aa T;have ae:∀m:Nat,∃K,∀i,i<m->r3 i<=K:=by
  intro m
  induction m with
  |zero=>exact⟨0,fun i hi=>absurd hi (jD _)⟩
  |succ m af=>
   obtain⟨K,u⟩:=af;refine⟨K+r3 m,fun i hi=>?_⟩;by_cases e:i=m
   .rw[e];omega
   have:=u i (by omega);omega
 have⟨K,u⟩:=ae (W p R).length;have⟨A,ag,J,g3,ah,w,ai⟩:=ad.run ⟨2*K+2,fun a f=>by
  have f:=mQ.2 f.1;have:IN p R (vg p R a):=by
   by_cases h:rv p R a
   .rw[ue H h];exact h.2.1
   rw[sj H h];exact f
  have:=u _ this.lt;unfold yo;split<;>omega⟩
 have⟨M,m1,m2⟩:=abB H.pv ag;have aj:=m1.ok H.pv;refine⟨M,m1,(PJ H.pv m2).2 fun t o=>⟨by rw[g3 t o];exact(H.rt t o).2,ah t⟩,H.fin m2 aj g3 fun l h=>?_⟩;have⟨z,ak,z2,L⟩:=H.last h;rw[z2];obtain rfl|⟨b,g,N,al,rfl⟩:=((H.rk h).2.1 z).1 ak
 .rw[H.val ((sR.1 ((H.rU h).2 (.inl rfl))).1),sF h];cases e:A.a.jV z with
  |none=>rfl
  |some a=>
   exfalso;have⟨y,C,r⟩:=(w z a).1 (rT e);have f:=mQ.2 y;have o:=H.Dk f C;rw[r]at o;have:=L _ o fun e=>pu h a e.s;have⟨ap,am,O,an,ao⟩:=(H.rQ _ _).1 this;have:=(H.Gy am f O).2;rw[r]at this;subst this;exact(Tt (H.rk h).2.2 o fun e=>pu h a e.s).2 ⟨O,an,ao⟩
 rw[H.val g.lt,g.at];have o:=(w l b).2 ⟨mQ.1 g,N,al⟩;obtain⟨a,E⟩:∃a,A.a.jV l=some a:=by
  cases e:A.a.jV l with
  |none=>rw[Eu.1 e]at o;cases o
  |some a=>exact⟨a,rfl⟩
 have:b=a:=by
  apply ki;intro P;have aq:=(Ah (ai l) E b o).resolve_left P;have⟨y,C,r⟩:=(w l a).1 (rT E);have f:=mQ.2 y;have Q:=H.Dk f C;rw[r]at Q;have:=PM H I F f g (.inr N) (.inr (.inr (.inl (L _ Q fun e=>P (j9 g f e.s)))));omega
 rw[E,<-this];show(A.a.ev b).val=((AM p R).ev b).val;have hi:A.a.In b:=(J.inv.cin l b o).1;rw[J.ev hi,qq g,g3 _ g.1]
end
end
section
theorem Rt.Q{ins}{d d'}{r}(h:Rt ins d r)(f:∀v∈d,v∈d'):Rt ins d' r:=by
 induction h with
 |zero=>exact .zero
 |step _ g i o=>exact o.step g fun e=>f _ (i e)
structure mB(p:a8)(vs:List UInt8)(A:Mc):Prop where
 pv:cO p
 rt:∀t,t<p.h.length->Rt (bH p t) vs (A.run t)/\(bH p t).length<=(A.run t).pc
 z:∀t,p.h.length<=t->(A.run t).many=0
 ok:iB (w p) A
 I:∀t,A.a.I t=[]
 len:(W p A.run).length<=48
section
variable{p:a8}{vs:List UInt8}{A:Mc}(E:mB p vs A)
include E
theorem mB.fin:Am.End (w p) A.a:=⟨E.ok.inv,E.I⟩
theorem mB.es:A.a.es=(AM p A.run).es:=by
 funext t;rw[E.ok.es];show _=if t<p.h.length then jQ (A.run t)else []
 by_cases h:t<p.h.length
 .grind
 rw[O h];unfold jQ;rw[E.z t (by omega)];rfl
theorem mB.ev:A.a.ev=(AM p A.run).ev:=by unfold Am.ev;rw[E.es]
theorem mB.kd:A.a.kd=(AM p A.run).kd:=by unfold Am.kd;rw[E.ev]
theorem mB.md:A.a.md=(AM p A.run).md:=by unfold Am.md;rw[E.ev]
theorem mB.lo:A.a.lo=(AM p A.run).lo:=by unfold Am.lo;rw[E.ev]
theorem mB.cz{a}:A.a.In a↔IN p A.run a:=by
 refine Iff.t ?_ (mQ (R:=A.run)).s;unfold Am.In;rw[E.es]
theorem mB.kp:A.a.Kp=(AM p A.run).Kp:=by unfold Am.Kp Am.td;rw[E.kd,E.md,E.lo]
def yZ(p:a8)(A:Mc)(r:Pt):Nat:=match A.a.src r with
 |none=>(AM p A.run).lo r
 |some s=>IX p A.run s
def uH(p:a8)(A:Mc)(l:Nat):List Nat:=l::(A.a.co l).map fun a=>IX p A.run a
theorem mB.Lz{r}(h:IN p A.run r)(i:(AM p A.run).kd r=1):(A.a.src r=none/\yZ p A r=(AM p A.run).lo r)\/∃s,A.a.src r=some s/\yZ p A r=IX p A.run s/\IN p A.run s/\(AM p A.run).kd s=2/\(AM p A.run).lo s=(AM p A.run).lo r:=by
 unfold yZ;cases e:A.a.src r with
 |none=>exact .inl ⟨rfl,rfl⟩
 |some s=>
  have⟨o,f,g,_⟩:=(E.ok.inv.src r (E.cz.2 h) (by rw[E.kd];exact i)).at_ s e
  rw[E.kd]at f;rw[E.lo]at g;exact .inr ⟨s,rfl,rfl,E.cz.1 o,f,g⟩
theorem mB.tW{l}{a}:a∈A.a.co l↔IN p A.run a/\(AM p A.run).kd a=2/\(AM p A.run).lo a=l:=by
 constructor
 .intro h;have⟨i,f,g,_⟩:=E.ok.inv.cin l a h;rw[E.kd]at f;rw[E.lo]at g;exact⟨E.cz.1 i,f,g⟩
 rintro⟨i,f,g⟩;have:=E.fin.d (E.cz.2 i) (by rw[E.kd];exact f);unfold Am.D at this;rw[E.lo,g]at this;omega
theorem mB.XU(l):l<p.init.length->l<(W p A.run).length:=fun h=>(bL.1 (x6 h)).1
theorem agH{l}(c:l<p.init.length):(uH p A l).Nodup:=by
 refine yx.2 ⟨fun h=>?_,?_⟩
 .have⟨a,_,e⟩:=bX.1 h;exact pu c a e.s
 refine Bz.2 ((E.ok.inv.jb l).imp_of_mem fun{a b} f g i e=>?_);have:=j9 (E.tW.1 f).1 (E.tW.1 g).1 e
 grind
theorem mB.loc{r}(f:IN p A.run r)(g:(AM p A.run).kd r=1\/(AM p A.run).kd r=2):(AM p A.run).lo r<p.init.length:=by
 unfold Am.kd at g;unfold Am.lo;rw[qq f]at g⊢;rw[E.pv.init];obtain h|h:=(((E.rt r.1 f.1).1.inv E.pv (tr f.1)).2.ev r.2 f.2).kind
 .exact h.2
 grind
theorem mB.aej:∃ds,cG p vs A.run ds/\(∀r,IN p A.run r->(AM p A.run).kd r=1->SR p A.run ds r=yZ p A r)/\∀l,l<p.init.length->RK p A.run ds l=uH p A l:=by
 have I:p.init.length<=6:=by rw[E.pv.init];exact E.pv.iG
 have J:∀m i,(bu (W p A.run))[m]? =some i->∃r,IN p A.run r/\(AM p A.run).kd r=1/\i=IX p A.run r:=fun m i h=>Da.1 (cB h);obtain⟨s,L⟩:∃s:Nat->Nat,∀m r,(bu (W p A.run))[m]? =some (IX p A.run r)->IN p A.run r->s m=yZ p A r:=by
  refine⟨fun m=>match sy p A.run ((bu (W p A.run)).getD m 0)with
   |some r=>yZ p A r
   |none=>0,fun m r h f=>?_⟩
  simp only[bj,h,sH,L8 f]
 have M:Ld (W p A.run) p.init.length s (uH p A):=by
  refine⟨fun m i hi=>?_,fun l u=>?_⟩
  .obtain⟨r,f,o,rfl⟩:=J m i hi;rw[L m r hi f];have w:=E.loc f (.inl o);have g:=(E.ok.inv.src r (E.cz.2 f) (by rw[E.kd];exact o)).val;rw[E.ev,E.lo]at g;refine(TP f.lt).2 ?_;rw[f.at];obtain⟨e1,e2⟩|⟨a,e1,e2,y,N,O⟩:=E.Lz f o
   .rw[e1]at g;rw[e2];exact⟨(FH E.pv w).2 (.inl rfl),by rw[sF w];exact g.s⟩
   rw[e1]at g;rw[e2];have g:((AM p A.run).ev r).val=(A.a.ev a).val:=g;refine⟨(FH E.pv w).2 (.inr ⟨a,y,N,O,rfl⟩),?_⟩;rw[y.at,g,E.ev]
  have P:∀i,i∈uH p A l↔i∈bI (W p A.run) l:=fun i=>by
   rw[FH E.pv u];unfold uH wj;rw[fI,bX];constructor
   .rintro(h|⟨a,Q,rfl⟩)
    .omega
    have⟨C,F,H⟩:=E.tW.1 Q
    grind
   rintro(h|⟨a,C,F,H,rfl⟩)
   .omega
   exact .inr ⟨a,E.tW.2 ⟨C,F,H⟩,rfl⟩
  have T:=LQ (n:=p.h.length) (R:=A.run) I u;refine(TR (Df _ _) (aO (Qj _ _) E.len) ?_).2 ⟨agH E u,P,by rw[T];rfl⟩
  grind
 have⟨ds,d1,d2,d3⟩:=YV M;have X:cG p vs A.run ds:=⟨E.pv,E.rt,E.len,d1⟩
 refine⟨ds,X,fun r f o=>?_,d3⟩;have:=Da.2 ⟨r,f,o,rfl⟩;show mO (W p A.run) ds ((bu (W p A.run)).idxOf (IX p A.run r))=_
 grind
noncomputable def BF(p:a8)(R:Nat->aK)(f:Pt->Nat)(i:Nat):Nat:=match sy p R i with
 |some a=>f a+1
 |none=>0
theorem mU{R}(f){a}(b:IN p R a):BF p R f (IX p R a)=f a+1:=by unfold BF;rw[L8 b]
theorem Gj{R}(f){l}(a:l<p.init.length):BF p R f l=0:=by unfold BF;rw[TJ a]
theorem mB.sound{M}(av:gD p A M)(aw:dW p M):∃ds,cG p vs A.run ds/\qp 4 (XX p A.run ds) (W p A.run)=0/\rZ (XX p A.run ds)=ku (aB M):=by
 have⟨ds,C,an,ao⟩:=E.aej;have P:=E.fin;have X:∀{a},(AM p A.run).kd a=1->A.a.kd a=1:=fun h=>by rw[E.kd];exact h
 have Q:∀{a},(AM p A.run).kd a=2->A.a.kd a=2:=fun h=>by rw[E.kd];exact h
 have ad:∀{a},((AM p A.run).kd a=1\/(AM p A.run).kd a=2)->(A.a.kd a=1\/A.a.kd a=2):=fun h=>by grind
 have ai:∀{a b},(AM p A.run).lo a=(AM p A.run).lo b->A.a.lo a=A.a.lo b:=fun h=>by rw[E.lo];exact h
 have co:∀i j,Rl.bit ((XX p A.run ds).row 2) i j=true->∃b,IN p A.run b/\(AM p A.run).kd b=2/\j=IX p A.run b/\(((AM p A.run).lo b<p.init.length/\i=(AM p A.run).lo b)\/∃a,IN p A.run a/\(AM p A.run).kd a=2/\i=IX p A.run a/\(AM p A.run).lo a=(AM p A.run).lo b/\A.a.key a<A.a.key b):=by
  intro i j h;have⟨l,O,J,o,f⟩:=(C.rQ i j).1 h;rw[ao l O]at J o f;unfold uH at J o f;have ap:∀{k},k∈(A.a.co l).map (fun a=>IX p A.run a)->∃a,a∈A.a.co l/\k=IX p A.run a:=fun h=>by grind
  obtain rfl|o:=fI.1 o
  .grind
  obtain⟨b,H,rfl⟩:=ap o;have⟨y,I,ax⟩:=E.tW.1 H;refine⟨b,y,I,rfl,?_⟩;obtain rfl|J:=fI.1 J
  .omega
  obtain⟨a,L,rfl⟩:=ap J;have⟨N,aa,ay⟩:=E.tW.1 L;refine .inr ⟨a,N,aa,rfl,ay.t ax.s,?_⟩;rw[Rl.KQ (pu O a),Rl.KQ (pu O b)]at f;have hi:∀{c:Pt}(aq:IN p A.run c)(l:List Pt),(∀d∈l,IN p A.run d)->(l.map fun a=>IX p A.run a).idxOf (IX p A.run c)=l.idxOf c:=fun{c} aq l=>by
   induction l with
   |nil=>intro _;rfl
   |cons d l az=>
    intro T;by_cases e:d=c
    .grind
    rw[nR,Rl.KQ (fun g=>e (j9 (T d rX) aq g)),az fun x g=>T x (kU _ g),List.idxOf_cons,show(d==c)=false from qd.2 e];rfl
  rw[hi N _ fun d T=>(E.tW.1 T).1,hi y _ fun d T=>(E.tW.1 T).1]at f;have g:=R7.2 H;have:=BM.1 (E.ok.inv.jb l) _ _ (by omega) g (show(A.a.co l).idxOf a<(A.a.co l).idxOf b by omega)
  grind
 have fr:∀i j,rF (XX p A.run ds) i j->∃r b,IN p A.run r/\(AM p A.run).kd r=1/\i=IX p A.run r/\IN p A.run b/\(AM p A.run).kd b=2/\j=IX p A.run b/\(AM p A.run).lo b=(AM p A.run).lo r/\∀s,A.a.src r=some s->A.a.key s<A.a.key b:=by
  rintro i j ⟨k,J,o⟩;obtain⟨r,g,u,rfl,rfl⟩:=(C.uE _ _).1 J;rw[an r g u]at o;obtain⟨b,y,I,rfl,f⟩:=co _ _ o;refine⟨r,b,g,u,rfl,y,I,rfl,?_⟩;obtain⟨e1,e2⟩|⟨s,e1,e2,R,ae,aA⟩:=E.Lz g u
  .rw[e2]at f;obtain⟨_,f⟩|⟨a,N,_,f,_⟩:=f
   .grind
   exact absurd f (pu (E.loc g (.inl u)) a)
  rw[e2]at f;obtain⟨F,f⟩|⟨a,N,aa,f,F,ar⟩:=f
  .exact absurd f.s (pu F s)
  obtain rfl:=j9 R N f
  grind
 have rf:∀i j,Rl.bit ((XX p A.run ds).row 1) i j=true->∃r,IN p A.run r/\(AM p A.run).kd r=1/\j=IX p A.run r/\((A.a.src r=none/\i<p.init.length)\/∃s,A.a.src r=some s/\IN p A.run s/\(AM p A.run).kd s=2/\i=IX p A.run s):=by
  intro i j h;obtain⟨r,g,u,rfl,rfl⟩:=(C.uE _ _).1 h;refine⟨r,g,u,rfl,?_⟩;rw[an r g u];obtain⟨e1,e2⟩|⟨s,e1,e2,R,ae,aA⟩:=E.Lz g u
  .exact .inl ⟨e1,by rw[e2];exact E.loc g (.inl u)⟩
  grind
 refine⟨ds,C,(OI C.len C.rows).2 ⟨BF p A.run A.a.ck,fun i j h=>?_⟩ (fun i j h=>?_) ⟨BF p A.run A.a.key,fun i j h=>?_⟩,?_⟩
 .obtain⟨J,o⟩|h|h|h:=h
  .obtain⟨a,b,L,H,rfl,rfl,f,F⟩:=(C.rp _ _).1 J;rw[L.at,H.at]at o;unfold pt j3 at o;simp only[cH,jW,fg]at o;obtain⟨⟨af,ag⟩,O⟩:=o;rw[mU E _ L,mU E _ H];obtain⟨t,q⟩:=a;obtain⟨aj,aC⟩:=b;obtain rfl:t=aj:=f;exact I3 (P.Wh F (by rw[<-E.cz]at H;exact H) (ad af) (ad ag) (ai (cg UInt8.toNat O)))
  .obtain⟨r,g,u,rfl,o⟩:=rf _ _ h;rw[mU E _ g];obtain⟨_,f⟩|⟨s,e1,R,ae,rfl⟩:=o
   .rw[Gj E _ f];omega
   rw[mU E _ R];have:=P.rf (X u);rw[e1,<-Am.End.uV (Q ae)]at this;omega
  .obtain⟨b,y,I,rfl,o⟩:=co _ _ h;rw[mU E _ y];obtain⟨f,rfl⟩|⟨a,N,aa,rfl,_,F⟩:=o
   .rw[Gj E _ f];omega
   rw[mU E _ N,Am.End.uV (Q aa),Am.End.uV (Q I)];have:=Am.FE (A:=A.a) F;omega
  obtain⟨r,b,g,u,rfl,y,I,rfl,f,F⟩:=fr _ _ h;rw[mU E _ g,mU E _ y];have:=P.Wu (E.cz.2 g) (X u) (Q I) F;omega
 .obtain⟨w,ak,al,rfl,rfl⟩:=(C.AJ _ _).1 h;rintro⟨k,J,o⟩;obtain⟨r,b,g,u,e,y,I,rfl,f,F⟩:=fr _ _ J;have⟨_,aD,_⟩:=C.w3 ak al;obtain rfl:=j9 aD g e;have⟨aH,w3,_,e,ar⟩:=co _ _ o;obtain rfl:=j9 ak w3 e;obtain⟨am,aE⟩|⟨a,N,_,e,_,am⟩:=ar
  .exact absurd aE.s (pu am b)
  obtain rfl:=j9 y N e;have aF:A.a.md w=3:=by rw[E.md];exact al.2
  exact P.at_ (E.cz.2 ak) (Q al.1) aF (E.cz.2 y) (Q I) (P.fr (E.cz.2 g) (X u) (E.cz.2 y) (Q I) (ai f) F) am
 .obtain h|⟨h,ah⟩|h|h:=h
  .obtain⟨a,b,L,H,rfl,rfl,f,F⟩:=(C.rp _ _).1 h.1;have af:=(D9 C L).1 h.2.1;have ag:=(D9 C H).1 h.2.2.1;have au:=(C.kp L H f F af ag).1 h;rw[<-E.kp]at au;rw[mU E _ L,mU E _ H];obtain⟨t,q⟩:=a;obtain⟨aj,aC⟩:=b;obtain rfl:t=aj:=f;exact I3 (P.kp F (by rw[<-E.cz]at H;exact H) (ad af) (ad ag) au)
  .obtain⟨r,g,u,rfl,o⟩:=rf _ _ h;rw[mU E _ g];obtain⟨_,f⟩|⟨s,e1,R,ae,rfl⟩:=o
   .rw[Gj E _ f];omega
   rw[mU E _ R];rw[R.at,g.at]at ah;have ah:(s.1:Int)≠(r.1:Int):=ah;have:=P.Js (E.cz.2 g) (X u) e1 (by omega);omega
  .obtain⟨b,y,I,rfl,o⟩:=co _ _ h;rw[mU E _ y];obtain⟨f,rfl⟩|⟨a,N,aa,rfl,_,F⟩:=o
   .rw[Gj E _ f];omega
   rw[mU E _ N];omega
  obtain⟨r,b,g,u,rfl,y,I,rfl,f,F⟩:=fr _ _ h;rw[mU E _ g,mU E _ y];have:=P.fr (E.cz.2 g) (X u) (E.cz.2 y) (Q I) (ai f) F;omega
 refine(C.fin av aw (fun t ah=>rfl) fun l O=>?_).s;rw[ao l O];have aG:oA (uH p A l)=match A.a.jV l with
  |some a=>IX p A.run a
  |none=>l:=by
  unfold oA uH Am.jV;obtain e|⟨c,a,e⟩:=List.eq_nil_or_concat (A.a.co l)
  .grind
  grind
 rw[aG];cases e:A.a.jV l with
 |none=>rw[C.val (E.XU l O),sF O];rfl
 |some a=>
  have L:=E.tW.1 (rT e);show(A.a.ev a).val=qF _ (IX p A.run a);rw[C.val L.1.lt,L.1.at,E.ev]
end
end
section
open Go.Sort
theorem agw{N}{l}{t k}{m}(h:uO N l k 0)(e:t<k):uO N l t m:=by
 cases l with
 |nil=>trivial
 |cons x l=>
  obtain⟨f,a,g,b,c⟩:=h;refine⟨by omega,a,?_,b,c⟩
  grind
theorem PR{N}{rest}{k:Nat}(f:k<4):∀(es:List Ev)(m:Nat),m+es.length<=255->(∀(q:Nat)(e:Ev),es[q]? =some e->e.pos=UInt8.ofNat (m+q)/\((e.kind=1\/e.kind=2)/\e.loc.toNat<N\/e.kind=3/\e.loc=0/\e.val=0))->uO N rest k (m+es.length)->uO N (kO k es++rest) k m
 |[],m,_,_,h=>h
 |e::es,m,g,c,h=>by
  have⟨i,j⟩:=c 0 e rfl;have l:e.pos.toNat=m:=by rw[i,pw];simp at g;omega
  refine⟨Int.le_refl _,(by grind),by grind,j.imp (fun⟨a,b⟩=>a.imp (fun a=>⟨a,b⟩) fun a=>⟨a,b⟩) id,?_⟩;rw[l];exact PR f es (m+1) (by grind) (fun q n o=>by have:=c (q+1) n o;rwa[show m+(q+1)=m+1+q by omega]at this) (by grind)
theorem abw(F)(q)(j):∀k,k<=64->((mC F q k).getLsbD j=true↔j<k/\(F[j]?).any (fun x=>x.ev.kind==q)=true):=by
 intro k
 induction k with
 |zero=>intro _;unfold mC;rw[Bv.lu];simp
 |succ k a=>
  intro b;unfold mC;split
  .rw[iU,jW,(a (by omega)),Bv.ik _ _ (by omega),jF]
   grind
  grind
theorem Vj(f)(j):∀k,(uY f k).getLsbD j=true↔∃i,i<k/\Rl.bit f i j=true:=by
 intro k
 induction k with
 |zero=>unfold uY;rw[Bv.lu];simp
 |succ k c=>
  unfold uY;rw[iU,jW,c];constructor
  .rintro(⟨i,a,b⟩|h)
   .grind
   exact⟨k,qW _,h⟩
  rintro⟨i,a,b⟩;by_cases e:i=k
  .subst e;exact .inr b
  grind
theorem Gl{s}(h:∀j,s.getLsbD j=true->False):s=0#64:=Bv.ext_get fun j _=>by
 grind
theorem P5{s}{k}(a:k<64)(h:∀j,s.getLsbD j=true↔j=k):s=Bv.bit k:=Bv.ext_get fun j _=>by
 rw[Bv.ik _ _ a,kG,h,jF]
theorem Uq{s}(h:s≠0#64):∃j,s.getLsbD j=true:=ki fun a=>h (Gl fun j b=>a ⟨j,b⟩)
section
variable{p:a8}{vs:List UInt8}{R:Nat->aK}{ds:List Nat}(H:cG p vs R ds)
include H
theorem cG.Rc:(W p R).length<=48:=H.len
theorem cG.F:zJ p.init.length (W p R):=by
 have:=H.pv.iE;refine⟨H.len,by rw[H.pv.init];exact H.pv.pg,H.Hv,?_,fun i hi=>⟨_,x6 hi⟩,?_⟩
 .rw[zA];exact Iz (aQ _)
 have e:(W p R).drop p.init.length=(List.range' 0 p.h.length).flatMap fun i=>kO i ((iw p.h.length R).getD i jU).F:=by
  show(bd p.init (iw p.h.length R)).drop _=_;unfold bd jr;rw[uC,List.drop_append_of_le_length (by rw[Ds];exact av _),Mw (by rw[Ds];exact av _),gG,List.range_eq_range']
 have:∀j k,k+j=p.h.length->uO p.init.length ((List.range' k j).flatMap fun i=>kO i ((iw p.h.length R).getD i jU).F) (k:Int) 0:=by
  intro j
  induction j with
  |zero=>intro k _;trivial
  |succ j o=>
   intro k r;have f:k<p.h.length:=by omega
   have:=H.m24 f;have:((iw p.h.length R).getD k jU).F.length=(R k).many:=by rw[zu f,RH]
   refine PR (by omega) _ 0 (by omega) (fun q e g=>?_) (agw (o (k+1) (by omega)) (by omega));have h:q<(R k).many:=by grind
   rw[zu f,R3 _ h]at g;obtain rfl:=aR g;have:=(H.inv f).ev q h;exact⟨by rw[cK];exact this.pos,by rw[H.pv.init];exact this.kind⟩
 grind
theorem cG.YC:LP (W p R) ((XX p R ds).row 1):=by
 intro i x o;have hi:=(bL.1 o).1;rw[jl hi]at o;obtain rfl:=aR o;have u:=Rl.Bg (H.rows 1 (dr rfl));refine⟨fun g=>Gl fun j w=>?_,fun g=>?_⟩
 .obtain⟨r,f,h,rfl,_⟩:=(H.uE _ _).1 (by rw[<-u];exact w);rw[f.at]at g;exact g h
 obtain⟨r,f,h,rfl⟩:=Da.1 (mem_reads.2 ⟨hi,g⟩);have⟨g,y⟩:=H.src f h;have⟨A,C,E⟩:=sR.1 ((H.rU (H.lo f (.inl h))).2 g);have:=H.Rc;refine⟨SR p R ds r,_,P5 (by omega) fun j=>?_,by omega,jl A,C,?_,?_⟩
 .show Rl.bit _ _ _=true↔_;rw[u,H.uE]
  grind
 .rw[f.at];exact tR.1 E
 rw[y,f.at]
theorem cG.yv{l}(o:l<p.init.length){a b}(h:pz (RK p R ds l) a b):uU ((XX p R ds).row 2) (b:Int)<uU ((XX p R ds).row 2) (a:Int):=by
 have f:∀{i j:Nat},i∈RK p R ds l->(((XX p R ds).row 2 i).getLsbD j=true↔pz (RK p R ds l) i j):=by
  intro i j hi;have:=H.rQ i j;unfold Rl.bit at this;rw[this];constructor
  .rintro⟨w,r,g⟩;have e1:=(sR.1 ((H.rU o).2 (((H.rk o).2.1 _).1 hi))).2.2;have e2:=(sR.1 ((H.rU r).2 (((H.rk r).2.1 _).1 g.1))).2.2
   grind
  grind
 have:=Rl.ac4 (s:=(XX p R ds).row 2 b) (t:=(XX p R ds).row 2 a) (fun j u=>(f h.1).2 (by
  have g:=(f h.2.1).1 u;exact⟨h.1,g.2.1,lZ h.2.2 g.2.2⟩)) fun e=>by
   have g:=(f h.1).2 h;rw[<-e]at g;exact n9 _ ((f h.2.1).1 g).2.2
 exact Int.ofNat_lt.2 this
theorem VD(f):SWO (mP (sD f)):=by
 have:∀x y,mP (sD f) x y=decide (uU f y<uU f x):=fun x y=>by
  unfold mP sD iA
  grind
 exact⟨fun x=>by grind,fun x y z a b=>by grind,fun x y z a b=>by grind⟩
theorem cG.My{l}(w:l<p.init.length):Lu ((XX p R ds).row 2) (bI (W p R) l)=(ints (RK p R ds l)).toArray:=by
 have⟨A,M,_⟩:=H.rk w;have⟨f,N⟩:=eX ((XX p R ds).row 2);have C:=fun{a b}(h:pz (RK p R ds l) a b)=>H.yv w h;rw[<-N]at C⊢;unfold Lu;have r:(ints (bI (W p R) l)).toArray.size=(bI (W p R) l).length:=by unfold ints;simp
 have⟨⟨E,_,o⟩,J⟩:=insertionSort_holds (VD H f) (ints (bI (W p R) l)).toArray 0 (bI (W p R) l).length (aQ _) (nJ r.s);have⟨d,O⟩:=eX (insertionSort (mP (sD f)) (ints (bI (W p R) l)).toArray 0 (bI (W p R) l).length);rw[<-O]at E o J⊢;rw[show d.extract 0 (bI (W p R) l).length=d by rw[<-r,<-E];exact SH,show(ints (bI (W p R) l)).toArray.extract 0 (bI (W p R) l).length=(ints (bI (W p R) l)).toArray by rw[<-r];exact SH]at o;have P:(ints (bI (W p R) l)).Perm (ints (RK p R ds l)):=((Ex (Df _ _) A).2 fun a=>by rw[M,H.rU w]).map _;have o:=List.Perm.trans o (by simpa using P);have L:∀{x:Int},x∈ints (RK p R ds l)->∃a,a∈RK p R ds l/\x=(a:Int):=fun h=>by unfold ints at h;have⟨a,F,e⟩:=bX.1 h;exact⟨a,F,e.s⟩
 have e:d.toList=ints (RK p R ds l):=by
  refine Uj (le:=fun x y=>uU f y<=uU f x) (fun x y Q T af ag=>?_) ?_ ?_ o
  .obtain⟨a,F,rfl⟩:=L (o.mem_iff.1 Q);obtain⟨b,X,rfl⟩:=L T;apply ki;intro aa;obtain g|g:=Q0 F X (fun e=>aa (by rw[e]))<;>have:=C g<;>omega
  .refine BM.2 fun i j hi u I=>?_;have:=J i j (aQ _) I (by rw[<-(E.t r)];simpa using u);have ad:i<d.size:=by simpa using hi
   have ae:j<d.size:=by simpa using u
   rw[De d i ad,De d j ae]at this;unfold mP sD iA at this;rw[S1,S1];apply ki;intro ah;apply(yG this);rw[aq (by omega)];decide
  refine Bz.2 (BM.2 fun i j hi u I=>?_);refine Int.le_of_lt (C ⟨oM _,oM _,?_⟩);rw[CD A (aI hi),CD A (aI u)];exact I
 rw[<-e]
theorem cG.small(h:(p.h.map List.length).sum<=8):(W p R).length<=p.init.length+16:=by
 have key:∀k,k<=p.h.length->lG p.init p.h.length R k<=p.init.length+2*((p.h.take k).map List.length).sum:=by
  intro k
  induction k with
  |zero=>intro _;exact Nat.le_add_right _ _
  |succ k i=>
   intro o;have f:k<p.h.length:=by omega
   have g:=((H.rt k f).1.inv H.pv (tr f)).1;have:=g.many;have:=g.pc;have:(bH p k).length=p.h[k].length:=by rw[EY (aI f)]
   rw[Ku f,jd,aI f,kx,List.sum_append,show((some p.h[k]).toList.map List.length).sum=p.h[k].length by simp];omega
 have:=key _ (av _);rw[nH]at this;rw[zA];omega
theorem cG.Xt(o:(p.h.map List.length).sum<=8):JK (W p R) p.init.length ((XX p R ds).row 2) (XX p R ds).mem (RK p R ds):=by
 have:=H.small o;have:=H.Hv;refine⟨fun l f=>?_,fun i hi=>?_,fun l h g=>by rw[Mt g,O (by omega)]⟩
 .have⟨r,u,g3⟩:=H.rk f;have h:∀a,a∈RK p R ds l↔a∈bI (W p R) l:=fun a=>by rw[u,H.rU f]
  refine⟨?_,H.My f,((Ex r (Df (W p R) l)).2 h).length_eq,by rw[<-List.head?_eq_getElem?];exact g3,fun a g=>(sR.1 ((h a).1 g)).1,by rw[Mt (by omega),aq f]⟩;have w:∀a∈bI (W p R) l,a∈l::List.range' p.init.length 16:=fun a g=>by
   obtain rfl|⟨b,y,_,_,rfl⟩:=(H.rU f).1 g
   .grind
   refine kU _ (List.mem_range'.2 ⟨IX p R b-p.init.length,?_,?_⟩)
   .have:=y.lt;omega
   have:p.init.length<=IX p R b:=M9 b;omega
  have:=yC _ _ (Df (W p R) l) w
  grind
 have key:∀k,qV (RK p R ds) k=sE (fU p.init (iw p.h.length R)) (W p R) (bu (W p R)).length ds k:=by
  intro k
  induction k with
  |zero=>unfold qV sE;rw[Ka (.inr rfl)]
  |succ k g=>unfold qV sE;rw[g]
 rw[key,(xI _ _ _).1 2,aq rfl]
theorem cG.dI:Jw (W p R) ((XX p R ds).row 0) ((XX p R ds).row 3) ((XX p R ds).row 4) ((XX p R ds).row 5):=by
 intro i x N;have hi:=(bL.1 N).1;rw[jl hi]at N;obtain rfl:=aR N;have ai:=H.Rc;have dp:∀{r:Nat}{eW:Path->List (Nat×Nat)}{f:Ev->BitVec 32}(_:r=3/\eW=Path.data/\f=Ev.data\/r=4/\eW=Path.A/\f=Ev.A\/r=5/\eW=Path.dP/\f=Ev.ff),(∀a,IN p R a->dV a.2 (R a.1).ev (f ((R a.1).ev a.2)))->∀{j},Rl.bit ((XX p R ds).row r) i j=true->
  ∃a b,IN p R a/\IN p R b/\(AM p R).kd a=1/\i=IX p R a/\j=IX p R b/\Rl.bit ((XX p R ds).row 0) i j=true/\(f ((R b.1).ev b.2))≠0:=by
  intro r eW f X aa j h;obtain⟨t,q,L,w,A,E,rfl,rfl⟩:=(Ec H X _ _).1 h;have⟨F,O⟩:=aa (t,q) ⟨w,A⟩ L E;have F:=F;have o:IN p R (t,L):=⟨w,by show L<(R t).many;omega⟩
  refine⟨(t,L),(t,q),o,⟨w,A⟩,by unfold Am.kd;rw[qq o];exact O,rfl,rfl,(H.rp _ _).2 ⟨_,_,o,⟨w,A⟩,rfl,rfl,rfl,F⟩,fun e=>?_⟩;have E:=E;rw[e]at E;simp at E
 have ad:∀a,IN p R a->dV a.2 (R a.1).ev ((R a.1).ev a.2).ff:=fun a o q M=>by
  have aj:=o.2;obtain⟨F,O,g3,ae,ak,al,af⟩|⟨_,F⟩:=(H.sq o).ff
  .rw[af,FI _ _ (by have:=H.m24 o.1;omega)]at M;obtain rfl:q=a.2-1:=by simpa using M
   exact⟨by omega,ae⟩
  rw[F]at M;simp at M
 have d3:=fun{j}=>dp (.inl ⟨rfl,rfl,rfl⟩) (fun a o=>(H.sq o).data) (j:=j);have d4:=fun{j}=>dp (.inr (.inl ⟨rfl,rfl,rfl⟩)) (fun a o=>(H.sq o).A) (j:=j);have d5:=fun{j}=>dp (.inr (.inr ⟨rfl,rfl,rfl⟩)) ad (j:=j);have kS:∀{b},IN p R b->(AM p R).kd b=2->(mC (W p R) 2 (W p R).length).getLsbD (IX p R b)=true:=fun{b} u C=>by
  refine(abw _ _ _ _ (by omega)).2 ⟨u.lt,?_⟩;rw[jl u.lt,u.at];unfold Am.kd at C;simp[C]
 have P:∀{b},IN p R b->((R b.1).ev b.2).data≠0\/((R b.1).ev b.2).ff≠0->(AM p R).kd b=2:=fun{b} u h=>by
  unfold Am.kd;rw[qq u];obtain h|h:=h
  .exact(H.sq u).Tj h
  obtain g|g:=(H.sq u).ff
  .exact g.1
  exact absurd g.2 h
 have I:∀{s t:BitVec 64}{j:Nat},(s|||t).getLsbD j=true↔s.getLsbD j=true\/t.getLsbD j=true:=fun{s t j}=>by rw[iU,jW]
 refine⟨fun J=>⟨?_,Gl fun j y=>?_,Gl fun j y=>?_⟩,fun J=>?_⟩
 .have⟨j,y⟩:=Uq J;rw[I,I]at y;obtain(y|y)|y:=y
  .obtain⟨a,b,o,u,C,rfl,_⟩:=d3 y;rw[o.at];exact C
  .obtain⟨a,b,o,u,C,rfl,_⟩:=d4 y;rw[o.at];exact C
  obtain⟨a,b,o,u,C,rfl,_⟩:=d5 y;rw[o.at];exact C
 .rw[lF,cH,I]at y;obtain⟨w,A⟩:=y;have ag:=Bx.mV A;rw[Bv.Ek _ _ ag]at A;obtain w|w:=w
  .obtain⟨a,b,o,u,C,rfl,rfl,_,E⟩:=d3 w;rw[kS u (P u (.inl E))]at A;cases A
  obtain⟨a,b,o,u,C,rfl,rfl,_,E⟩:=d5 w;rw[kS u (P u (.inr E))]at A;cases A
 .rw[lF,cH,I,I]at y;obtain⟨w,A⟩:=y;rw[Bv.Ek _ _ (Bx.mV A)]at A;have:Rl.bit ((XX p R ds).row 0) i j=true:=by
   obtain(w|w)|w:=w
   .have⟨a,b,_,_,_,_,_,h,_⟩:=d3 w;exact h
   .have⟨a,b,_,_,_,_,_,h,_⟩:=d4 w;exact h
   have⟨a,b,_,_,_,_,_,h,_⟩:=d5 w;exact h
  unfold Rl.bit at this;rw[this]at A;cases A
 have⟨j,y⟩:=Uq J;obtain⟨a,o,Q,rfl,rfl⟩:=(H.AJ _ _).1 y;have⟨am,T,w3,ah,_⟩:=H.w3 o Q;have one:∀{b},IN p R b->W3 p R b->IX p R (a.1,a.2-1)=IX p R (b.1,b.2-1)->b=a:=fun{b} u J e=>by
  have:=j9 T (H.w3 u J).2.1 e;have⟨e1,e2⟩:=yD this;have:=(H.w3 u J).1;exact Prod.ext e1.s (by omega)
 have:=o.lt;refine⟨IX p R a,_,P5 (by omega) fun j=>?_,by omega,jl o.lt,?_,xu.2 fun h=>?_⟩
 .have:=H.AJ (IX p R (a.1,a.2-1)) j;unfold Rl.bit at this;rw[this];constructor
  .rintro⟨b,u,J,e,rfl⟩;rw[one u J e]
  rintro rfl;exact⟨a,o,Q,rfl,rfl⟩
 .rw[o.at,T.at];exact tR.1 ah.s
 have⟨k,C,h⟩:=(Vj _ _ _).1 h;obtain⟨b,u,J,rfl,e⟩:=(H.AJ _ _).1 h;obtain rfl:=j9 o u e;omega
theorem cG.ai(f:(p.h.map List.length).sum<=8):Cy p.init.length ⟨W p R,XX p R ds⟩ (RK p R ds):=
 ⟨H.F,X8,H.rows,fun i _=>by show(XX p R ds).row 0 i=_;rw[Ph],H.YC,H.Xt f,H.dI⟩
end
end
def I6{p}{Q}{ps}:ps∈nc (kJ p.h Q)↔∃R:Nat->aK,ps=iw p.h.length R/\∀t,t<p.h.length->R t∈dA (bH p t) (cF Q):=by
 have b:(kJ p.h Q).length=p.h.length:=by unfold kJ;simp
 have:∀t,t<p.h.length->(kJ p.h Q).getD t []=(dA (bH p t) (cF Q)).map eA:=fun t a=>by
  unfold kJ;rw[bj,dG,aI a];rw[EY (aI a)];rfl
 have:∀t,t<p.h.length->((kJ p.h Q).map List.length)[t]? =some (dA (bH p t) (cF Q)).length:=fun t a=>by
  grind
 unfold nc;rw[bX];constructor
 .rintro⟨c,l,rfl⟩;have⟨e,f⟩:=uM l;rw[cV,b]at e;have i:∀t,t<p.h.length->c.getD t 0<(dA (bH p t) (cF Q)).length:=fun t a=>by
   grind
  refine⟨fun t=>(dA (bH p t) (cF Q)).getD (c.getD t 0) jL,?_,fun t a=>?_⟩
  .unfold pF qg iw;simp_all
  grind
 rintro⟨R,rfl,m⟩;have o:∀t,t<p.h.length->∃d,d<(dA (bH p t) (cF Q)).length/\(dA (bH p t) (cF Q))[d]? =some (R t):=fun t a=>by
  have⟨d,i,f⟩:=iD (m t a);exact⟨d,i,by grind⟩
 obtain⟨g,q⟩:∃g:Nat->Nat,∀t,t<p.h.length->g t<(dA (bH p t) (cF Q)).length/\(dA (bH p t) (cF Q))[g t]? =some (R t):=
  ⟨fun t=>if h:t<p.h.length then(o t h).choose else 0,fun t h=>by grind⟩
 refine⟨(List.range p.h.length).map g,MF (by simp[b]) fun j d n e f=>?_,?_⟩
 .grind
 unfold pF qg iw;rw[b];refine Br fun t a=>?_
 grind
def ZV{init}{N}{ps}{ds}(h:ds∈dL (iK (bd init ps) N)):nM init N ps 1≠0:=by
 have⟨g,i⟩:=uM h;have b:∀k∈(bF (bd init ps)).map List.length,1<=k:=fun k a=>by
  have⟨j,l,e⟩:=iD a;have:(iK (bd init ps) N)[j]? =some k:=by
   unfold iK
   grind
  grind
 have c:∀k∈((gg (bd init ps) N).map List.length).flatMap gh,1<=k:=fun k a=>by
  have⟨w,_,f⟩:=mR.1 a;exact J2 w k f
 unfold nM uh;rw[O fun e=>by grind];have:=Fg (L:=1) (n:=1) b;have:=Fg (L:=1) (n:=fx 1 1 ((bF (bd init ps)).map List.length)) c;omega
def LL{p}(a:cO p){vs}(m:pY p=some vs){aJ}{cl}(h:eR p aJ=some cl)(c):c∈cl↔∃R b,cG p (cF vs) R b/\c=⟨W p R,XX p R b⟩:=by
 unfold eR xk at h;rw[m]at h;simp only[]at h;by_cases i:l3 p.init (kJ p.h vs)=true
 .rw[aq i]at h;simp only[]at h;split at h
  .obtain rfl:=aR h;have n:∀ps∈nc (kJ p.h vs),gR p.init ps ps.length<=48:=fun ps g=>by
    unfold l3 at i
    grind
   have j:∀R:Nat->aK,(∀t,t<p.h.length->R t∈dA (bH p t) (cF vs))↔∀t,t<p.h.length->Rt (bH p t) (cF vs) (R t)/\(bH p t).length<=(R t).pc:=fun R=>
    ⟨fun h t e=>(DD (a.code _ (tr e))).1 (h t e),fun h t e=>(DD (a.code _ (tr e))).2 (h t e)⟩
   rw[mR];constructor
   .rintro⟨ps,g,f⟩;obtain⟨R,rfl,o⟩:=I6.1 g;unfold mA at f;split at f
    .cases f
    obtain⟨b,e,rfl⟩:=bX.1 f;rw[<-a.init]at e;refine⟨R,b,⟨a,(j R).1 o,?_,e⟩,?_⟩
    .rw[zA];have:=n _ g;rw[uC]at this;exact this
    rw[<-a.init]
   rintro⟨R,b,l,rfl⟩;have e:=l.ds;refine⟨iw p.h.length R,I6.2 ⟨R,rfl,(j R).2 l.rt⟩,?_⟩;unfold mA;rw[<-a.init,O (ZV e)];exact bX.2 ⟨b,e,rfl⟩
  cases h
 grind
def Ie{p}{aJ}{cl}(h:eR p aJ=some cl):∃vs,pY p=some vs:=by
 unfold eR xk at h
 grind
def Vf{p}(a:cO p)(b:(p.h.map List.length).sum<=8){aJ}{cl}(h:eR p aJ=some cl):∀c∈cl,∃e,Cy p.N c e:=by
 intro c f;have⟨vs,g⟩:=Ie h;obtain⟨R,j,i,rfl⟩:=(LL a g h c).1 f;exact⟨_,by rw[<-a.init];exact i.ai b⟩
def agn{p}(b:cO p)(e:xZ p){aJ}{cl}(h:eR p aJ=some cl):∀x∈gJ 4 cl,∃M,gA p M/\di p M=[]/\ku (aB M)=x:=by
 intro x f;obtain⟨c,a,rfl⟩:=bX.1 f;have⟨a,j⟩:=nE.1 a;have⟨vs,g⟩:=Ie h;obtain⟨R,l,i,rfl⟩:=(LL b g h c).1 a;exact i.complete (by grind) e
def Q7{p}(a:cO p){aJ}{cl}(h:eR p aJ=some cl):∀M,gA p M->di p M=[]->ku (aB M)∈gJ 4 cl:=by
 intro M g m;have⟨vs,c⟩:=Ie h;have⟨A,i,f⟩:=g.au a;have⟨n,o⟩:=agK a (adH a c) i;have j:=(PJ a f).1 m;have q:∀v∈vs,v∈cF vs:=fun v c=>(yg _ _).2 c;have l:∀t,t<p.h.length->Rt (bH p t) (cF vs) (A.run t)/\(bH p t).length<=(A.run t).pc:=fun t b=>⟨(n t b).Q q,(j t b).1⟩
 have r:(W p A.run).length<=48:=by
  unfold eR xk at h;rw[c]at h;simp only[]at h;by_cases e:l3 p.init (kJ p.h vs)=true
  .unfold l3 at e;rw[cH,mw]at e;have:=e.2 _ (I6.2 ⟨A.run,rfl,fun t b=>(DD (a.code _ (tr b))).2 (l t b)⟩);rw[uC]at this;rw[zA];exact mf this
  rw[O e]at h;cases h
 have E:mB p (cF vs) A:=⟨a,l,o,El a i,fun t=>by
  by_cases b:t<p.h.length
  .exact(j t b).2
  .exact f.off t (by omega),r⟩
 have⟨s,u,w,x⟩:=E.sound f (g.ok a);exact bX.2 ⟨_,nE.2 ⟨(LL a c h _).2 ⟨A.run,s,u,rfl⟩,by simpa using w⟩,x⟩
def afD(s):(jE s).length<=32:=by
 have h:=yC (jE s) (List.range 32) ((Bs.Ar (wide s)).imp fun{a b} h=>xp h) fun i c=>by
  have:=Q3.1 c
  grind
 grind
def SP(ss):∀k,(mW ss k)<=k*32
 |0=>by unfold mW;simp
 |k+1=>by
  rw[KA,dc,cV];have:=SP ss k;have:=afD (ss.getD k 0);omega
def aeM{n}{f}{x}(h:x∈pk ((List.range n).map f)):x.2<n/\(f x.2).getLsbD x.1=true:=by
 unfold pk mW at h;rw[cV,pM]at h;have⟨i,a,h⟩:=mR.1 h;have a:=fS.1 a;obtain⟨j,b,rfl⟩:=bX.1 h;rw[bj,dG,pU a]at b;exact⟨a,Q3.1 b⟩
def agS{p}(c:cO p){ins}(a:ins∈p.h){Q}{t}(m:t∈ru ins Q):xo p.N t:=by
 unfold ru at m;obtain⟨r,q,rfl⟩:=bX.1 m;have⟨s,z⟩:=(DD (c.code _ a)).1 q;have⟨n,b⟩:=s.inv c a;have:=c.len _ a;have:r.many<=24:=by have:=n.many;have:=n.pc;omega
 have:(eA r).F.length=r.many:=by unfold eA;simp
 have g:∀(f:Ev->BitVec 32),(∀i,i<r.many->dV i r.ev (f (r.ev i)))->∀x∈pk ((List.range r.many).map fun i=>f (r.ev i)),x.1<(eA r).F.length/\x.2<(eA r).F.length:=fun f u x v=>by
  have⟨o,j⟩:=aeM (f:=fun i=>f (r.ev i)) v;have:=(u _ o _ j).1;omega
 have l:∀f:Nat->BitVec 32,(pk ((List.range r.many).map f)).length<=1000:=fun f=>by
  unfold pk;have:=SP ((List.range r.many).map f) r.many
  grind
 refine⟨by omega,fun e w A=>?_,g (fun e=>e.data) fun i a=>(b.ev i a).data,g (fun e=>e.A) fun i a=>(b.ev i a).A,g (fun e=>e.ff) fun i a=>?_,l _,l _,l _⟩
 .obtain⟨i,a,rfl⟩:=bX.1 w;obtain h|h:=(b.ev i (fS.1 a)).kind
  .exact h.2
  grind
 obtain⟨_,_,o,j,_,_,y⟩|⟨_,h⟩:=(b.ev i a).ff
 .rw[y];exact dV.bit (by omega) (by omega) j
 rw[h];exact dV.zero _ _
def ade:pT ⟨#[97]⟩=true:=by decide+kernel
def Uf(s:ml):ml:=⟨⟨#[97]⟩,s.names,s.init,s.h,1,.mk 0 0 0 0 []⟩
def XL{s}(h:rz s=0):rz (Uf s)=0:=by
 have key:=Mp (l:=kY s) (by intro x a;unfold kY at a;simp only[fI,List.mem_nil_iff,Cr]at a;obtain rfl|rfl|rfl|rfl|rfl|rfl:=a<;>simp) h;have a:kR s.names s.init=true:=key (71,kR s.names s.init) (by unfold kY;simp);have b:nZ s.h=true:=key (72,nZ s.h) (by unfold kY;simp);have c:(s.h.all fun ins=>iv ins s.names)=true:=key (73,s.h.all fun ins=>iv ins s.names) (by unfold kY;simp);show yi [(70,pT ⟨#[97]⟩),(71,kR s.names s.init),(72,nZ s.h),(73,s.h.all fun ins=>iv ins s.names),(75,vX 1),(74,lk s.h s.names 20 (.mk 0 0 0 0 []))]=0;rw[ade,a,b,c];rfl
def abm{w}{g}{s}(h:mM w g s):mM w (um g) (Uf s):=
 ⟨rfl,h.names,h.prog.run,rfl,⟨⟨rfl,rfl,rfl,rfl⟩,none,0,rfl,aQ _,fun h=>absurd h (n9 _)⟩,h.many⟩
def Jd{w}{g}{s}(h:mM w g s)(c:rz s=0)(a:bh w):jH w g:=fun W b=>(Rr g s W (h.Z b) (a.Z b a.lt)).m fun e j ⟨f,i⟩=>⟨by rw[f,c],i⟩
def Xl(A)(ins)(c)(w)(a:jG w A ins)(b:bh w)(h:iv ins 6=true):Calls prog 96 #[.slice A ins c] w (Rs true w):=by
 go_enter func96,ntmps96
 go_wp2_with (go_at_call 47;refine(H (Qm A ins c 6 w a b)).y.st fun f e=>?_)
 go_ret;exact⟨rfl,e⟩
def af8{w}{g}{p}(m:eE w g p)(f:Gs p)(h:bh w):Ab w g p:=by
 intro z C n c i k ins A o j a W l;have⟨T,E,q,r⟩:=m.h;rw[q]at i;injection i with e1 e2;have⟨b,F,e,H,s⟩:=r (by grind);rw[e1]at e;injection e with e;injection e with t u;subst t u;have⟨A',I,v,x,_⟩:=s k ins j;rw[v]at a;injection a with a;injection a with y J L;subst y;exact Xl A' ins o W (x.Z l (av _)) (h.Z l h.lt) (aex (f.C ins (cB j)) f.iG)
def ZD(s:ml)(w:World)(e:Ending)(a:World):Prop:=∃b,e= .returned (.bool b)/\(b=true->rz s=0/\s.h.length<=3/\(s.h.map List.length).sum<=8)/\Below w w a
def VI(g)(s)(w)(o:mM w g s)(u:bh w):
 Calls prog 4 #[(J 10 g)] w (ZD s w):=by
 have⟨v,j⟩:=eX (w.alloc (.cells (J 10 g) 29));have y:aj v w 29 10 g:=by rw[j];exact aj.new _ _ _ _
 have F:Below w w v:=by rw[j];exact ba w _
 have⟨T,af,I,C⟩:=o.prog.h;have q:=tJ y 3 (dr rfl) I;have⟨G,r⟩:=eX (J 10 g);have t:=fun W M=>Rr g s W (o.Z M) (u.Z M u.lt);have⟨R,f⟩:=eX (rz s);rw[<-r]at j t⊢;rw[<-f]at t;have:=bT r (dr rfl);have N:=o.many;unfold maxLen at N;have O:s.prog.h=s.h:=rfl;rw[O]at q C;have⟨n,E⟩:=eX s.h.length;rw[<-E]at q N;have e:=jR C t F y E f (cD r) j;clear C t F y E f r j o u I O;go_enter func4,ntmps4
 go_upto_region 1 with fail
 rw[<-e.H]
 go_wp2_with fail
 have C3:=H q;clear q
 go_loopw [3,9] (fun z i wr=>∃(k:Nat)(m:Int),k<=n/\i= .int .i64 k/\z= .int .i64 m/\((∀ins∈s.h,ins.length<=12)->n<=4->m=(((s.h.take k).map List.length).sum:Nat))/\wr=v) (fun _ i _=>n-(intOf i).toNat)
 case atStart=>exact⟨0,0,aQ _,rfl,rfl,fun _ _=>by simp,rfl⟩
 obtain⟨k,m,ag,rfl,rfl,j,rfl⟩:=hrel;by_cases k<n
 .obtain⟨b,Q,rfl,o,C⟩:=e.a (by have:=e.e;omega);obtain⟨ins,q⟩:∃ins,s.h[k]? =some ins:=⟨_,aI (by have:=e.e;omega)⟩
  have⟨A,c,E,_,_⟩:=C k ins q;have X:=(e.c.C (p:=⟨b,Q+k,none⟩) o).t E;have⟨L,F⟩:=eX ins.length;rw[<-F]at X;have aa:(k:Int)<n:=by omega
  have r:(∀ins∈s.h,ins.length<=12)->n<=4->IntKind.i64.wrap (m+L)=(((s.h.take (k+1)).map List.length).sum:Nat):=fun t I=>by
   have u:=j t I;have:L<=12:=by grind
   have O:((s.h.take k).map List.length).sum<=12*k:=by
    have:∀l:List (List Ins),(∀ins∈l,ins.length<=12)->(l.map List.length).sum<=12*l:=by
     intro l
     induction l with
     |nil=>intro _;simp
     |cons a l ab=>intro h;have:=h a rX;have:=ab fun x ad=>h x (kU _ ad);simp;omega
    grind
   rw[jd,q,kx,List.sum_append];rw[u];simp only[Option.toList_some,nR,pR,List.sum_cons,List.sum_nil];rw[gw _ (by omega)];omega
  have⟨ae,P⟩:=eX (IntKind.i64.wrap (m+L));rw[<-P]at r;have y:=H r;have:IntKind.i64.wrap ((k:Int)+1)=(k:Int)+1:=gw _ (by omega);clear j r C E q F;go_wp2;exact⟨⟨k+1,ae,by omega,by go_num,by rw[P,nk];unfold wrap64;rfl,y.y,trivial⟩,by simp[intOf];omega⟩
 obtain rfl:k=n:=by omega
 have:=C3.y;have y:=H j;clear j;have q:∀b,(b=true->k<=3/\m<=8/\R=0)->(b=true->rz s=0/\s.h.length<=3/\(s.h.map List.length).sum<=8):=fun b o h=>by
  have⟨t,I,u⟩:=o h;have f:=e.f;rw[u]at f;have O:=y.y (fun ins j=>by have:=(yN f.s).C ins j;unfold iv at this;rw[cH,lD]at this;exact this.1) (by omega);rw[e.e,nH]at O;exact⟨f.s,by rw[<-e.e];exact t,by omega⟩
 have j:=H q;clear q;by_cases q:k<=3
 .have aa:(k:Int)<=3:=by omega
  by_cases r:m<=8
  .have⟨B,C⟩:=eX ((R==0):Bool);have:(B==B)=true:=by simp
   have:=H C
   go_wp2_with (first|((with_reducible refine ae2 _ ?_);refine EP rfl 0 10 e.d e.g (dr rfl) fN rfl gC rfl ?_)|(go_at_call 10;refine(e.b _ e.c).st fun F E=>?_))
   go_ret;exact⟨_,rfl,j.y _ (fun h=>⟨q,r,by grind⟩),e.c.t (E.m e.c.size)⟩
  go_wp2;go_ret;exact⟨_,rfl,j.y _ (fun h=>by cases h),e.c⟩
 have:¬(k:Int)<=3:=by omega
 go_wp2;go_ret;exact⟨_,rfl,j.y _ (fun h=>by cases h),e.c⟩
section
attribute [local irreducible] Code.wp wpList Oper.wp wpQuiet
def QL{p}{aJ}{a:List gO}(b:aJ<=3000)(h:eR p aJ=a):a.length<=3000:=by
 unfold eR at h;split at h
 .cases h
 rename_i l _;split at h
 .have:=Qd (init:=p.init) (N:=p.N) (l:=l) (by omega) l (av _)
  grind
 cases h
structure sa(s:ml):Prop where
 right:rz s=0
 C:s.h.length<=3
 many:(s.h.map List.length).sum<=8
def sa.prog{s}(h:sa s):CG s.prog:=by
 have f:=yN h.right;exact⟨f.pg,f.iG,f.init,h.C,f.v.code,h.many⟩
def Z7(p:a8)(m b:Nat)(w:World)(e:Ending)(c:World):Prop:=∃v,e= .returned (.tuple #[v,.int .i64 (if(eR p b).isSome then 0 else 5)])/\(∀a,eR p b=some a->c.ownsRow w.1.size 58 38 v (fy (gJ m a)).length (fw (fy (gJ m a))))/\Below w w c
def MI(g:Nat->Value)(s:ml)(m b:Nat)(w:World)(e:mM w g s)(a:bh w)(h:sa s)(l:2<=m)(n:m<=4)(i:b<=3000):
 Calls prog 6 #[.agg (J 10 g),.int .u8 m,.int .i64 b] w (Z7 s.prog m b w):=by
 have f:=yN h.right;exact UQ m b s.prog.N g (eR s.prog b) w l n
  (fun W c=>Wv g s.prog b W i h.prog (e.Z c).prog (Jd (e.Z c) h.right (a.Z c a.lt)) (af8 (e.Z c).prog f (a.Z c a.lt)) (a.Z c a.lt) fun Q ins o t p=>agS f.v o p)
  (fun q j=>⟨QL i j,Vf f.v h.many j⟩) a
def Py(g)(s)(w)(a:mM w g s)(b:bh w)(h:sa s):
 Calls prog 7 #[(J 10 g),.int .u8 3,.int .i64 3000] w (JC s.prog w):=
 ael s.prog g 3000 w (dr rfl) (dr rfl) a.prog (Jd a h.right b) (Jd (abm a) (XL h.right) b) (yN h.right).v
def Se(l):(fy l)<=l.length:=by
 refine aO (PP _) (nJ ?_);unfold tA;simp
def NJ{p}{w w'}{e}(h:JC p w e w'):∃u f,e=(Value.tuple #[u,.int .i64 f])/\Below w.1.size w w'/\(f=5\/f=0/\∃d,w'.ownsRow w.1.size 58 38 u (fy d) (fw (fy d))/\(∀x,x∈d↔∃M,gA p M/\di p M=[]/\x=ku (aB M))/\(fy d).length<=3000):=by
 obtain⟨a,⟨v,rfl⟩|⟨v,d,rfl,b,c,g⟩⟩:=h
 .grind
 exact⟨v,0,rfl,a,.inr ⟨rfl,d,b,c,aO (Se d) g⟩⟩
def Yj{p}(c:cO p){aJ}{a:List gO}(h:eR p aJ=a){d}(e:∀f,f∈d↔∃M,gA p M/\di p M=[]/\f=ku (aB M)):∀x∈fy d,x∈fy (gJ 4 a):=fun x b=>by
 rw[Ha]at b⊢;obtain⟨M,g,i,rfl⟩:=(e x).1 b;exact Q7 c h M g i
def agJ{p}(e:cO p)(j:xZ p){aJ}{g:List gO}(h:eR p aJ=g){d}(i:∀f,f∈d↔∃M,gA p M/\di p M=[]/\f=ku (aB M)):fy (gJ 4 g)=fy d:=by
 refine agf fun x=>⟨fun a=>?_,fun a=>?_⟩
 .have⟨M,b,c,l⟩:=agn e j h x a;exact(i x).2 ⟨M,b,c,l.s⟩
 obtain⟨M,b,c,rfl⟩:=(i x).1 a;exact Q7 e h M b c
def afV(g)(s)(w)(t:mM w g s)(b:bh w)(h:sa s)(L:xZ s.prog):
 Calls prog 9 #[(J 10 g),.int .u8 4,.int .u8 3] w (Rs true w):=by
 have⟨i,j⟩:=eX (w.alloc (.cells (J 10 g) 29));have z:aj i w 29 10 g:=by rw[j];exact aj.new _ _ _ _
 have c:Below w w i:=by rw[j];exact ba w _
 have m:=MI g s 4 3000 i (t.Z c) (b.Z c b.lt) h (dr rfl) (dr rfl) (dr rfl);have x:=fun W(A:Below i i W)=>Py g s W ((t.Z c).Z A) ((b.Z c b.lt).Z A (b.Z c b.lt).lt) h;have⟨G,n⟩:=eX (J 10 g);rw[<-n]at j m x⊢;have:=bT n (dr rfl);rw[show((4:Nat):Int)=4 from rfl,show((3000:Nat):Int)=3000 from rfl]at m;have⟨E,C⟩:=eX (if(eR s.prog 3000).isSome then 0 else 5:Int);have a:=dH m x c z (cD n) C j;clear m x c z n j t b C;go_enter func9,ntmps9
 go_upto_region 1 with fail
 rw[<-a.G]
 go_upto_region 2 with(first|(refine br 0 10 a.d a.e (dr rfl) fN rfl gC rfl ?_)|(go_at_call 6;refine a.a.m ?_;rintro e R ⟨v,rfl,l,o⟩;rw[<-a.f]))
 have y:=aA l o;clear l
 go_upto_region 3 with(first|(refine br 0 10 (a.d.Z o a.d.lt) a.e (dr rfl) fN rfl gC rfl ?_)|(go_at_call 7;refine(a.b _ o).m ?_;rintro e M p;obtain⟨u,f,rfl,F,p⟩:=NJ p;have q:=aA F p;clear F p))
 have I:=a.c.t ((y.B.t (q.a.m y.B.size)).m a.c.size);have r:=H I;clear I o;rcases hcl:eR s.prog 3000 with _|N
 .obtain rfl:E=5:=by have:=a.f;rw[hcl]at this;exact this
  obtain rfl|⟨rfl,_⟩:=q.B
  all_goals
   clear hcl;go_wp2;go_ret;exact⟨rfl,r.y⟩
 obtain rfl:E=0:=by have:=a.f;rw[hcl]at this;exact this
 obtain rfl|⟨rfl,d,O,P,T⟩:=q.B
 .clear hcl;go_wp2;go_ret;exact⟨rfl,r.y⟩
 have l:=bP (y.a N hcl) q.a;rw[(agJ (yN h.right).v L hcl P)]at l
 go_wp2_with (go_at_call 18;refine(H (acn _ _ v u (fy d) M l O (by omega))).y.st fun X Q=>?_)
 go_ret;exact⟨rfl,r.y.t (Q.m r.y.size)⟩
end
section
attribute [local irreducible] Code.wp wpList Oper.wp wpQuiet
def UC(g:Nat->Value)(s:ml)(w:World)(aW:mM w g s)(ay:bh w)(aX:∀W,Below w w W->Calls prog 5 #[] W (Rs true W)):
 Calls prog 3 #[(J 10 g)] w (Rs true w):=by
 have⟨l,ai⟩:=eX (w.alloc (.cells (J 10 g) 29));have aY:aj l w 29 10 g:=by rw[ai];exact aj.new _ _ _ _
 have aa:Below w w l:=by rw[ai];exact ba w _
 have ab:=aW.Z aa;have O:=ay.Z aa ay.lt;have az:=VI g s l ab O;have aZ:=fun W(I:Below l l W)=>aX W (aa.t (I.m aa.size));have⟨G,an⟩:=eX (J 10 g);have P:=fun(h:sa s) W(I:Below l l W)=>MI g s 4 3000 W (ab.Z I) (O.Z I O.lt) h (dr rfl) (dr rfl) (dr rfl);have aB:=fun(h:sa s) W(I:Below l l W)=>Py g s W (ab.Z I) (O.Z I O.lt) h;have aC:=fun(h:sa s)(ak:xZ s.prog) W(I:Below l l W)=>afV g s W (ab.Z I) (O.Z I O.lt) h ak;rw[<-an]at ai az P aB aC⊢;simp only[show((4:Nat):Int)=4 from rfl,show((3000:Nat):Int)=3000 from rfl]at P;have:=bT an (dr rfl);have a:=pn az aZ P aB aC aY (cD an) aa ab ai;clear az aZ P aB aC aY an aa ai ab O aW ay aX;go_enter func3,ntmps3
 go_upto_region 1 with fail
 rw[<-a.J]
 go_upto_if 13 with(first|(refine br 0 10 a.f a.g (dr rfl) fN rfl gC rfl ?_)|(go_at_call 4;refine a.a.m ?_;rintro e bq ⟨b,rfl,a0,ao⟩))
 cases b
 .have aE:=H ao
  go_wp2_with (go_at_call 5;refine(a.b _ aE.y).st fun ap Q=>?_)
  go_ret;exact⟨rfl,a.h.t ((aE.y.t (Q.m aE.y.size)).m a.h.size)⟩
 simp only[Ey];have⟨f1,f2,f3⟩:=a0 rfl;have a1:sa s:=⟨f1,f2,f3⟩
 have aF:=(yN f1).v;have⟨T,bs,a2,aG⟩:=a.i.prog.h;have a3:∀ins∈s.h,ins.length<=12:=fun ins M=>aF.len ins M;have aH:=(ao.C (p:=⟨w,3,none⟩) a.f.lt).t (tJ a.f 3 (dr rfl) a2);change bq.cell? _=some (.slice T ↑s.h bs)at aH;change BL l T s.h at aG;have aJ:=a.f.lt;have⟨n,ak⟩:=eX s.h.length;rw[<-ak]at aH f2;have N:=dC a1 aG ak ao a3 aF;clear a1 aG ak ao a3 aF a0 f1 f3 a2;have bt:=Bu;have⟨a4,aK⟩:=eX (aV ⟨0,0,0,⟨false,0⟩,⟨false,0⟩,0,0,0⟩);rw[<-aK]at bt;have aL:a4.size=10:=by rw[aK];rfl
 have:¬a4=#[]:=by intro e;rw[e]at aL;exact absurd aL (dr rfl)
 clear aK
 go_wp2_with fail
 clear aH
 go_loopw [18] (fun i wr=>∃k,k<=n/\i= .int .i64 k/\(∀(j:Nat) ins,j<k->s.h[j]? =some ins->∀x∈ins,x.op=7->x.mode≠5)/\Below l l wr) (fun i _=>n-(intOf i).toNat)
 case atStart=>exact⟨0,aQ _,rfl,fun j ins h=>absurd h (jD _),N.d⟩
 obtain⟨k,bO,rfl,aq,F⟩:=hrel;have⟨bQ,bu⟩:=eX wr;subst bu;by_cases k<n
 .obtain⟨bv,bw,rfl,bx,R⟩:=N.b (by have:=N.c;omega);obtain⟨ins,ar⟩:∃ins,s.h[k]? =some ins:=⟨_,aI (by have:=N.c;omega)⟩
  have⟨A,c,a5,a6,_⟩:=R k ins ar;have a7:=(F.C (p:=⟨bv,bw+k,none⟩) bx).t a5;have bz:=N.e ins (cB ar);have⟨L,aM⟩:=eX ins.length;rw[<-aM]at a7 bz;have:(k:Int)<n:=by omega
  have o:=bM aq F ar a6 aM;clear aq F ar a6 aM R a5
  go_upto_region 7 with fail
  clear a7
  go_loopw [24] (fun j wr=>∃m,m<=L/\j= .int .i64 m/\(∀(i:Nat) x,i<m->ins[i]? =some x->x.op=7->x.mode≠5)/\Below l l wr) (fun j _=>L-(intOf j).toNat)
  case atStart=>exact⟨0,aQ _,rfl,fun j x h=>absurd h (jD _),o.b⟩
  obtain⟨m,bS,rfl,au,F⟩:=hrel;by_cases m<L
  .obtain⟨a8,co,rfl,bF,a9⟩:=o.d (by have:=o.E;omega);obtain⟨x,C⟩:∃x,ins[m]? =some x:=⟨_,aI (by have:=o.E;omega)⟩
   have aN:=BS fun j bb=>(F.C (p:=⟨a8,co+m*10+j,none⟩) bF).t (a9 m x C j bb);have⟨bG,aP⟩:=eX (aV x);rw[<-aP]at aN;have:(m:Int)<L:=by omega
   obtain⟨aw,bc⟩:∃z,z=Y x.op:=⟨_,rfl⟩
   obtain⟨ax,bd⟩:∃z,z=Y x.mode:=⟨_,rfl⟩
   have r:=dH au F C aN (aP.t (yO x).s) bc bd;clear au F C aN aP bc bd a9
   go_upto_region 9 with(first|(refine mh (fun i=>(aV x)[i]!) r.e aL kz (fun i M=>Il x i M) rfl rfl ?_;intro ap aR Q)|(refine iI rfl _ _ rfl a8 (co+m*10) rfl bG.toList _ r.d mr rfl (by rw[ML,r.e,dF];exact kz) ?_))
   have:ap.cell? (↑wr:Nat)=some (.int .u8 aw):=(aR.C 0 (dr rfl)).t (by rw[r.f];rfl);have:ap.cell? ⟨wr,8,none⟩=some (.int .u8 ax):=(aR.C 8 (dr rfl)).t (by rw[r.G];rfl);have be:=r.b.t (Q.m r.b.size);have ad:=H be;clear aR Q be;have bf:∀h:¬(aw=7/\ax=5),∀(i:Nat) y,i<m+1->ins[i]? =some y->y.op=7->y.mode≠5:=fun h i y M P ae af=>by
    by_cases e:i=m
    .subst e;rw[r.c]at P;cases P;exact h ⟨by rw[r.f,ae];rfl,by rw[r.G,af];rfl⟩
    exact r.a i y (by omega) P ae af
   have bg:=H bf;clear bf;by_cases ae:aw=7
   .subst ae;by_cases af:ax=5
    .subst af;have⟨E,bi⟩:=eX (if(eR s.prog 3000).isSome then 0 else 5:Int);have aS:=H bi;clear bi
     go_upto_region 11 with(first|(refine br 0 10 (a.f.Z ad.y aJ) a.g (dr rfl) fN rfl gC rfl ?_)|(go_at_call 6;refine(a.c N.a _ ad.y).m ?_;rintro e bH ⟨v,rfl,R,al⟩;rw[<-aS.y];have am:=aD R al (ad.y.t (al.m ad.y.size));clear R al))
     go_upto_region 12 with(first|(refine br 0 10 (a.f.Z am.C aJ) a.g (dr rfl) fN rfl gC rfl ?_)|(go_at_call 7;refine(a.d N.a _ am.C).m ?_;rintro e bI C;obtain⟨u,f,rfl,aT,C⟩:=NJ C;have t:=aD aT C (am.C.t (aT.m am.C.size));clear aT C))
     have bj:=a.h;have ag:=H bj;clear bj;rcases hcl:eR s.prog 3000 with _|aU
     .obtain rfl:E=5:=by have:=aS.y;rw[hcl]at this;exact this
      obtain rfl|⟨rfl,_⟩:=t.b
      all_goals
       clear hcl
       go_wp2_with (go_at_call 5;refine(a.b _ t.C).st fun bl X=>?_)
       go_ret;exact⟨rfl,ag.y.t ((t.C.t (X.m t.C.size)).m ag.y.size)⟩
     obtain rfl:E=0:=by have:=aS.y;rw[hcl]at this;exact this
     obtain rfl|⟨rfl,d,bm,bn,bJ⟩:=t.b
     .clear hcl
      go_wp2_with (go_at_call 5;refine(a.b _ t.C).st fun bl X=>?_)
      go_ret;exact⟨rfl,ag.y.t ((t.C.t (X.m t.C.size)).m ag.y.size)⟩
     have R:=bP (am.a aU hcl) t.a;have bK:=aO (Se _) (aO (La 4 aU) (QL (av _) hcl));have bo:=Vs _ _ u v (fy d) (fy (gJ 4 aU)) bI bm R (by omega) (by omega) (Yj N.F hcl bn);have bL:=H bo;clear hcl R bK bo bm bn bJ
     go_wp2_with (first|(go_at_call 8;refine bL.y.st fun bl X=>?_)|(go_at_call 5;refine(a.b _ (t.C.t (X.m t.C.size))).st fun bU bN=>?_))
     go_ret;exact⟨rfl,ag.y.t (((t.C.t (X.m t.C.size)).t (bN.m (aO t.C.size X.size))).m ag.y.size)⟩
    have:(ax !=5)=true:=by simpa using af
    go_wp2;exact⟨⟨m+1,by omega,by go_num,bg.y (fun e=>af e.2),ad.y⟩,by simp[intOf];omega⟩
   have:(aw !=7)=true:=by simpa using ae
   go_wp2;exact⟨⟨m+1,by omega,by go_num,bg.y (fun e=>ae e.1),ad.y⟩,by simp[intOf];omega⟩
  obtain rfl:m=L:=by omega
  have r:=aA au F;clear au F;go_wp2;refine⟨⟨k+1,by omega,by go_num,fun j i bb M x C=>?_,r.B⟩,by simp[intOf];omega⟩;by_cases e:j=k
  .subst e;rw[o.c]at M;cases M;have⟨q,ah,e⟩:=iD C;exact r.a q x (by have:=o.E;omega) (by rw[aI ah,e])
  exact o.a j i (by omega) M x C
 obtain rfl:k=n:=by omega
 have bp:xZ s.prog:=fun ins M x C=>by
  have⟨q,ah,e⟩:=iD M;exact aq q ins (by have:=N.c;have ah:q<s.h:=ah;omega) (by rw[show s.h[q]? =some (s.h[q]'ah)from aI ah];exact cs e) x C
 have o:=aA bp F;clear aq F bp
 go_wp2_with (first|(refine br 0 10 (a.f.Z o.B aJ) a.g (dr rfl) fN rfl gC rfl ?_)|(go_at_call 9;refine(a.e N.a o.a _ o.B).st fun ap Q=>?_)|(go_at_call 5;refine(a.b _ (o.B.t (Q.m o.B.size))).st fun bH al=>?_))
 go_ret;exact⟨rfl,a.h.t (((o.B.t (Q.m o.B.size)).t (al.m (aO o.B.size Q.size))).m a.h.size)⟩
end
namespace gZ
open Go.ChangeShapes Go.WideShapes
def Ce{a:Type}{n}{P:Nat->a->Prop}(h:∀i,i<n->∃y,P i y):∃l:List a,l.length=n/\∀i y,l[i]? =some y->P i y:=by
 induction n with
 |zero=>exact⟨[],rfl,fun i y h=>by cases h⟩
 |succ n b=>
  have⟨l,c,e⟩:=b fun i f=>h i (by omega);have⟨y,g⟩:=h n (qW n);refine⟨l++[y],by simp[c],fun i z j=>?_⟩
  grind
variable{H:Type}{aB:TypeId×Value->H}{P:Program}{w:World}{spare:Nat->Bool}{held:Bool}
def zX{a:Addr}{len k}{C:Nat->List Value}(l:0<k)(m:0<len)(h:∀i,i<len->w.cells? 0 (a.add (i*k)) k=some (C i)):
 ∃b e,a=⟨b,e,none⟩/\b<w.1.size/\∀i,i<len->∀j,j<k->w.cell? ⟨b,e+i*k+j,none⟩=(C i)[j]?:=by
 have g:=fun i f=>World.cells?_some (h i f);have c:=(g 0 m).2.2 0 l;obtain⟨v,n⟩:∃v,(C 0)[0]? =some v:=⟨_,aI (by grind)⟩
 rw[n,Jt]at c;have o:(a.add 0).add 0=a:=by unfold Addr.add;simp
 rw[o]at c;obtain⟨b,e,sp⟩:=a;have p:sp=none:=by
  unfold World.cell? at c;cases sp with
  |none=>rfl
  |some q=>simp at c;split at c<;>simp at c
 subst p;refine⟨b,e,rfl,oU w _ c,fun i f j r=>?_⟩;have:=(g i f).2.2 j r;rw[eV,eV]at this;exact this
def uI{cs:List Value}{o}{v}(h:(cs.drop o).take 1=[v]):cs[o]? =some v:=by
 have:=cg (fun l=>l[0]?) h
 grind
def fields{t}{fs}{L}(g:P.underlying t=some (.struct fs))(i:fs.toList.map (fun f=>(f.type,f.offset,P.cellsOf f.type))=L){fuel}{cs}{x}
 (h:DataW.trod aB P w 0 spare held fuel t cs=some x):cs.length=P.cellsOf t/\∀(k:Nat) a b c,L[k]? =some (a,b,c)->∃m y,DataW.trod aB P w 0 spare held m a ((cs.drop b).take c)=some y:=by
 have⟨xs,n,_,_,j,o,p⟩:=DataW.trod_struct g h;refine⟨j,fun k a b c e=>?_⟩;rw[<-i,dG]at e;cases l:fs.toList[k]? with
 |none=>rw[l]at e;cases e
 |some f=>
  grind
def RQ{t}(a:P.underlying t=some (.int .u8)){fuel}{cs}{x}(h:DataW.trod aB P w 0 spare held fuel t cs=some x):∃v:UInt8,cs=[.int .u8 (v.toNat:Int)]:=by
 obtain⟨n,rfl,_,b⟩:=DataW.trod_int a h;have:0<=n/\n<=255:=by
  simp[Lit.wf,IntKind.min,IntKind.max,IntKind.bits,IntKind.signed]at b;omega
 exact⟨UInt8.ofNat n.toNat,by
  congr 2;rw[pw];omega⟩
end gZ
section
def Uo:prog.underlying 5=some (.int .u8):=underlying5
def UN:(prog.fieldsOf 34).toList.map (fun f=>(f.type,f.offset,prog.cellsOf f.type))=[(4,0,1),(5,1,1)]:=by kernel_rfl
def abC:(prog.fieldsOf 36).toList.map (fun f=>(f.type,f.offset,prog.cellsOf f.type))=[(5,0,1),(5,1,1),(5,2,1),(34,3,2),(34,5,2),(5,7,1),(5,8,1),(5,9,1)]:=by kernel_rfl
def ZT:(prog.fieldsOf 27).toList.map (fun f=>(f.type,f.offset,prog.cellsOf f.type))=[(5,0,1),(5,1,1),(5,2,1),(5,3,1),(25,4,1)]:=by kernel_rfl
def WY:(prog.fieldsOf 29).toList.map (fun f=>(f.type,f.offset,prog.cellsOf f.type))=[(9,0,1),(22,1,1),(23,2,1),(24,3,1),(5,4,1),(27,5,5)]:=by kernel_rfl
def Zd:prog.underlying 34=some (.struct (prog.fieldsOf 34)):=by kernel_rfl
def Y6:prog.cellsOf 36=10:=by kernel_rfl
def aga:prog.cellsOf 27=5:=by kernel_rfl
def Uh:prog.cellsOf 29=10:=by kernel_rfl
def Ff:prog.cellsOf 5=1:=by kernel_rfl
def abT:prog.cellsOf 9=1:=by kernel_rfl
def WL:prog.cellsOf 32=1:=by kernel_rfl
section
variable{H:Type}{aB:TypeId×Value->H}{w:World}{spare:Nat->Bool}{held:Bool}{fuel:Nat}{cs:List Value}{x:DataW H×List MemPlace}
def pS{m o}{y}(h:DataW.trod aB prog w 0 spare held m 5 ((cs.drop o).take 1)=some y):∃v:UInt8,cs[o]? =some (.int .u8 (Y v)):=by
 have⟨v,a⟩:=gZ.RQ Uo h;exact⟨v,gZ.uI a⟩
def Ny{m o}{y}(h:DataW.trod aB prog w 0 spare held m 34 ((cs.drop o).take 2)=some y):∃a:Arg,cs[o]? =some (.bool a.cY)/\cs[o+1]? =some (.int .u8 (Y a.n)):=by
 have⟨_,c⟩:=gZ.fields Zd UN h;have⟨i,j,f⟩:=c 0 _ _ _ rfl;have⟨l,n,g⟩:=c 1 _ _ _ rfl;have⟨b,e,_⟩:=DataW.trod_bool underlying4 f;have⟨v,p⟩:=pS g;have e:=gZ.uI e;exact⟨⟨b,v⟩,by grind,by grind⟩
def ad5(h:DataW.trod aB prog w 0 spare held fuel 36 cs=some x):∃i:Ins,∀j,j<10->cs[j]? =(aV i)[j]?:=by
 have⟨s,c⟩:=gZ.fields mr abC h;have⟨_,_,e⟩:=c 0 _ _ _ rfl;have⟨_,_,f⟩:=c 1 _ _ _ rfl;have⟨_,_,g⟩:=c 2 _ _ _ rfl;have⟨_,_,l⟩:=c 3 _ _ _ rfl;have⟨_,_,m⟩:=c 4 _ _ _ rfl;have⟨_,_,n⟩:=c 5 _ _ _ rfl;have⟨_,_,o⟩:=c 6 _ _ _ rfl;have⟨_,_,p⟩:=c 7 _ _ _ rfl;have⟨op,t⟩:=pS e;have⟨dst,e1⟩:=pS f;have⟨q,e2⟩:=pS g;have⟨a,u,v⟩:=Ny l;have⟨b,y,z⟩:=Ny m;have⟨fn,A⟩:=pS n;have⟨r,C⟩:=pS o;have⟨skip,E⟩:=pS p;refine⟨⟨op,dst,q,a,b,fn,r,skip⟩,fun j F=>?_⟩;have:j=0\/j=1\/j=2\/j=3\/j=4\/j=5\/j=6\/j=7\/j=8\/j=9:=by omega
 obtain rfl|rfl|rfl|rfl|rfl|rfl|rfl|rfl|rfl|rfl:=this<;>assumption
def Sd{A}{n c}(h:DataW.trod aB prog w 0 spare held fuel 32 [.slice A n c]=some x):n<=maxLen/\∃ins:List Ins,ins.length=n/\jG w A ins/\∀a,A=some a->0<n->a.block<w.1.size:=by
 obtain⟨e,_⟩|⟨a,E,F,m,k,D,I,e,_,r,s,J,_,l⟩:=Ez underlying32 h
 .injection e with e _;injection e with e1 e2 o;subst e1 e2;exact⟨aQ _,[],rfl,fun h=>absurd h (n9 _),fun a e=>by cases e⟩
 injection e with e _;injection e with e1 e2 o;subst e1 e2 o;refine⟨aO r s,?_⟩;have:n<=m:=by grind
 rw[Y6]at l;obtain⟨C,g⟩:∃C:Nat->List Value,∀i,i<n->w.cells? 0 (a.add (i*10)) 10=some (C i)/\∃y,DataW.trod aB prog w 0 spare held k 36 (C i)=some y:=
  ⟨fun i=>if f:i<n then(l i (by omega)).choose else [],fun i f=>by
    grind⟩
 obtain⟨ins,t,L⟩:=gZ.Ce (P:=fun i(y:Ins)=>∀j,j<10->(C i)[j]? =(aV y)[j]?) fun i f=>by
  obtain⟨y,u⟩:=(g i f).2;exact ad5 u
 refine⟨ins,t,fun p=>?_,fun M e p=>?_⟩
 .obtain⟨b,v,rfl,q,z⟩:=gZ.zX (dr rfl) (by omega) fun i f=>(g i f).1
  grind
 cases e;obtain⟨b,v,rfl,q,z⟩:=gZ.zX (dr rfl) p fun i f=>(g i f).1;exact q
def En{t e}{k}(p:prog.underlying t=some (.slice e))(r:prog.cellsOf e=k){A}{n c}(h:DataW.trod aB prog w 0 spare held fuel t [.slice A n c]=some x):
 n<=c/\n<=maxLen/\((A=none/\n=0)\/∃(a:Addr)(C:Nat->List Value),A=some a/\∀i,i<n->w.cells? 0 (a.add (i*k)) k=some (C i)/\∃m y,DataW.trod aB prog w 0 spare held m e (C i)=some y):=by
 subst r;obtain⟨e,_⟩|⟨a,u,v,m,q,D,z,e,_,f,s,g,_,j⟩:=Ez p h
 .injection e with e _;injection e with e1 e2 b;subst e1 e2 b;exact⟨av _,aQ _,.inl ⟨rfl,rfl⟩⟩
 injection e with e _;injection e with e1 e2 b;subst e1 e2 b;refine⟨f,aO f s,.inr ⟨a,fun i=>if l:i<n then(j i (by have:n<=m:=by{rw[g];split<;>omega};omega)).choose else [],rfl,fun i l=>?_⟩⟩;have o:=(j i (by have:n<=m:=by{rw[g];split<;>omega};omega)).choose_spec;simp only[js l];exact⟨o.1,q,_,o.2⟩
def Xd{T}{n c}(h:DataW.trod aB prog w 0 spare held fuel 24 [.slice T n c]=some x):n<=maxLen/\∃ps:List (List Ins),ps.length=n/\BL w T ps:=by
 obtain⟨_,j,⟨rfl,rfl⟩|⟨a,C,rfl,l⟩⟩:=En underlying24 WL h
 .exact⟨j,[],rfl,fun h=>absurd h (n9 _)⟩
 refine⟨j,?_⟩;have⟨ps,p,t⟩:=gZ.Ce (P:=fun i(ins:List Ins)=>∃A c,C i=[.slice A ins.length c]/\jG w A ins/\∀a,A=some a->0<ins.length->a.block<w.1.size) (n:=n) fun i g=>by
  have⟨_,m,y,o⟩:=l i g;have f:=o;obtain⟨e,_⟩|⟨u,v,z,_,_,_,_,e,_⟩:=Ez underlying32 o
  .rw[e]at f;have⟨_,ins,q,r,s⟩:=Sd f
   grind
  rw[e]at f;have⟨_,ins,q,r,s⟩:=Sd f
  grind
 refine⟨ps,p,fun E=>?_⟩;obtain⟨b,F,rfl,I,J⟩:=gZ.zX (dr rfl) (by omega) fun i g=>(l i g).1
 grind
def acW{T}{n c}(h:DataW.trod aB prog w 0 spare held fuel 22 [.slice T n c]=some x):n<=c/\∃f:List ByteArray,f.length=n/\vp w T f:=by
 obtain⟨j,_,⟨rfl,rfl⟩|⟨a,C,rfl,l⟩⟩:=En underlying22 abT h
 .exact⟨j,[],rfl,fun h=>absurd h (n9 _)⟩
 refine⟨j,?_⟩;have⟨f,o,q⟩:=gZ.Ce (P:=fun i(s:ByteArray)=>C i=[.string s]) (n:=n) fun i g=>by
  have⟨_,m,y,p⟩:=l i g;have⟨s,e,_⟩:=DataW.trod_string underlying9 p
  grind
 refine⟨f,o,fun r=>?_⟩;obtain⟨b,t,rfl,u,v⟩:=gZ.zX (dr rfl) (by omega) fun i g=>(l i g).1
 grind
def afk{T}{n c}(h:DataW.trod aB prog w 0 spare held fuel 23 [.slice T n c]=some x):∃l:List UInt8,l.length=n/\pK w T l:=by
 obtain⟨_,_,⟨rfl,rfl⟩|⟨a,C,rfl,g⟩⟩:=En underlying23 Ff h
 .exact⟨[],rfl,fun h=>absurd h (n9 _)⟩
 have⟨j,o,q⟩:=gZ.Ce (P:=fun i(v:UInt8)=>C i=[.int .u8 (Y v)]) (n:=n) fun i f=>by
  have⟨_,m,y,p⟩:=g i f;have⟨s,e⟩:=gZ.RQ Uo p;exact⟨s,e⟩
 refine⟨j,o,fun r=>?_⟩;obtain⟨b,t,rfl,u,z⟩:=gZ.zX (dr rfl) (by omega) fun i f=>(g i f).1
 grind
def Gt{t e}(b:prog.underlying t=some (.slice e))(h:DataW.trod aB prog w 0 spare held fuel t cs=some x):∃A n c,cs=[.slice A n c]:=by
 obtain⟨e,_⟩|⟨a,f,g,_,_,_,_,e,_⟩:=Ez b h
 .grind
 grind
end
def Tf{H}{aB}{w}{spare}{held}:∀(d:Nat){fuel:Nat}{cs:List Value}{x:DataW H×List MemPlace},DataW.trod aB prog w 0 spare held fuel 27 cs=some x->∃y:Ct,sP d w (fun j=>cs.getD j undef) y
 |0,_,_,_,_=>⟨.mk 0 0 0 0 [],trivial⟩
 |d+1,fuel,cs,x,h=>by
  have⟨R,e⟩:=gZ.fields QG ZT h;have⟨_,_,F⟩:=e 0 _ _ _ rfl;have⟨_,_,I⟩:=e 1 _ _ _ rfl;have⟨_,_,J⟩:=e 2 _ _ _ rfl;have⟨_,_,L⟩:=e 3 _ _ _ rfl;have⟨_,_,p⟩:=e 4 _ _ _ rfl;have⟨k,z⟩:=pS F;have⟨t,e1⟩:=pS I;have⟨n,e2⟩:=pS J;have⟨v,A⟩:=pS L;have⟨K,m,c,o⟩:=Gt underlying25 p;rw[o]at p;have o:=gZ.uI o;have g:∀{j:Nat}{u:Value},cs[j]? =some u->cs.getD j undef=u:=fun h=>by grind
  obtain⟨_,T,⟨rfl,rfl⟩|⟨a,C,rfl,r⟩⟩:=En underlying25 aga p
  .exact⟨.mk k t n v [],⟨g z,g e1,g e2,g A⟩,none,c,g o,aQ _,fun h=>absurd h (n9 _)⟩
  have⟨l,M,N⟩:=gZ.Ce (P:=fun i(y:Ct)=>sP d w (fun j=>(C i).getD j undef) y) (n:=m) fun i f=>by
   have⟨_,q,y,s⟩:=r i f;exact Tf d s
  refine⟨.mk k t n v l,⟨g z,g e1,g e2,g A⟩,some a,c,by grind,by omega,fun E=>?_⟩;rw[M]at E;obtain⟨b,O,rfl,Q,W⟩:=gZ.zX (dr rfl) E fun i f=>(r i f).1;refine⟨b,O,rfl,Q,fun i y s=>⟨fun j=>(C i).getD j undef,fun j X=>?_,N i y s⟩⟩;have f:i<m:=by grind
  have:=(World.cells?_some (r i f).1).2.1
  grind
def Yb{H}{aB}{w}{spare}{held}{v}{d:DataW H}{p}{r}{b0}
 (O:Value.okWide prog w r b0 29 v)(h:DataW.Trod aB prog w 0 spare held 29 v d p):∃(g:Nat->Value)(s:ml),v= .agg (J 10 g)/\mM w g s:=by
 obtain⟨xs,rfl,Q⟩:=WideShapes.okWide_struct fN O;rw[Uh]at Q;obtain⟨fuel,a⟩:=h;have⟨cs,q⟩:=eX (Value.agg xs).cells.toList;rw[<-q]at a;have R:xs=cs.toArray:=by rw[q];rfl
 have⟨W,a⟩:=gZ.fields fN WY a;rw[Uh]at W;have⟨_,_,X⟩:=a 0 _ _ _ rfl;have⟨_,_,b⟩:=a 1 _ _ _ rfl;have⟨_,_,f⟩:=a 2 _ _ _ rfl;have⟨_,_,i⟩:=a 3 _ _ _ rfl;have⟨_,_,aa⟩:=a 4 _ _ _ rfl;have⟨_,_,ab⟩:=a 5 _ _ _ rfl;have⟨ad,ae,_⟩:=DataW.trod_string underlying9 X;have⟨L,av,m,e1⟩:=Gt underlying22 b;have⟨I,aw,z,e2⟩:=Gt underlying23 f;have⟨T,ax,A,C⟩:=Gt underlying24 i;have⟨ask,af⟩:=pS aa;rw[e1]at b;rw[e2]at f;rw[C]at i;have⟨ag,E,o,ah⟩:=acW b;have⟨F,ai,aj⟩:=afk f;have⟨ak,ps,M,al⟩:=Xd i;have⟨y,N⟩:=Tf 20 ab;have g:∀{j:Nat}{u:Value},cs[j]? =some u->cs.getD j undef=u:=fun h=>by rw[bj,h];rfl
 refine⟨fun j=>cs.getD j undef,⟨ad,E,F,ps,ask,y⟩,?_,⟨g (gZ.uI ae),⟨L,m,by rw[o];exact g (gZ.uI e1),by rw[o];exact ag,ah⟩,⟨⟨L,m,by rw[show ml.prog _=_ from rfl];show _=Value.slice L E.length m;rw[o];exact g (gZ.uI e1)⟩,⟨I,z,by show _=Value.slice I F.length z;rw[ai];exact g (gZ.uI e2),aj⟩,⟨T,A,by show _=Value.slice T ps.length A;rw[M];exact g (gZ.uI C),al⟩⟩,g af,?_,by rw[M];exact ak⟩⟩
 .rw[R];congr 1;congr 1;refine C7 fun j=>?_;rw[dG];by_cases am:j<10
  .rw[pU am,aI (by omega)];show _=some (cs.getD j undef);rw[bj,aI (by omega)];rfl
  rw[od (by omega),od (by simp;omega)];rfl
 have e:(fun j=>((cs.drop 5).take 5).getD j undef)=fun j=>if j<5 then cs.getD (5+j) undef else undef:=by
  funext j;rw[bj,Iy,QI];split
  .rw[<-bj]
  rfl
 rw[e]at N;cases y with
 |mk k t n v l=>
  obtain⟨⟨an,ao,ap,aq⟩,K,c,ar,au⟩:=N;exact⟨⟨an,ao,ap,aq⟩,K,c,ar,au⟩
end
def uJ(l:UInt8):Ins:=⟨2,0,l,⟨false,1⟩,⟨false,0⟩,0,0,0⟩
def wF(l:UInt8):Ins:=⟨1,0,l,⟨false,0⟩,⟨false,0⟩,0,0,0⟩
def lC:ml:=⟨⟨#[115,98]⟩,[⟨#[120]⟩,⟨#[121]⟩],[0,0],[[uJ 0,wF 1],[uJ 1,wF 0]],1,.mk 0 0 0 0 []⟩
def Y7:pT ⟨#[115,98]⟩=true:=by decide+kernel
def abi:kR [⟨#[120]⟩,⟨#[121]⟩] 2=true:=by decide+kernel
def Vd:([[uJ 0,wF 1],[uJ 1,wF 0]].all fun ins=>iv ins 2)=true:=by decide+kernel
def YL:rz lC=0:=by
 show yi [(70,pT ⟨#[115,98]⟩),(71,kR [⟨#[120]⟩,⟨#[121]⟩] 2),(72,nZ _),(73,[[uJ 0,wF 1],[uJ 1,wF 0]].all fun ins=>iv ins 2),(75,vX 1),(74,lk _ _ 20 (.mk 0 0 0 0 []))]=0;rw[Y7,abi,Vd];rfl
def aaI:(eR lC.prog 100).map List.length=some 4:=by decide+kernel
def M5{l}(h:l.Pairwise fun a b=>a.1≠b.1):(fy l)=l.length:=by
 have f:(fy l).Nodup:=(J4 l).imp fun{x y} c e=>by subst e;rw[tZ.irrefl]at c;cases c
 have g:l.Nodup:=h.imp fun{x y} c e=>c (by rw[e]);exact((Ex f g).2 fun x=>Ha l x).length_eq
def aeP:∃a,eR lC.prog 100=some a/\a=(eR lC.prog 100).getD []:=by
 cases h:eR lC.prog 100 with
 |none=>have:=aaI;rw[h]at this;cases this
 |some a=>exact⟨a,rfl,rfl⟩
def acm:(gJ 2 ((eR lC.prog 100).getD [])).length=3:=by decide+kernel
def aeq:(gJ 3 ((eR lC.prog 100).getD [])).length=4:=by decide+kernel
def V5:(gJ 2 ((eR lC.prog 100).getD [])).Pairwise fun a b=>a.1≠b.1:=by decide+kernel
def Z8:(gJ 3 ((eR lC.prog 100).getD [])).Pairwise fun a b=>a.1≠b.1:=by decide+kernel
def afo:∃a,eR lC.prog 100=some a/\(fy (gJ 2 a)).length=3/\(fy (gJ 3 a)).length=4:=by
 obtain⟨a,c,b⟩:=aeP;exact⟨a,c,by rw[b,M5 V5,acm],by rw[b,M5 Z8,aeq]⟩
def ZP:sa lC:=⟨YL,by decide,by decide⟩
section
attribute [local irreducible] Code.wp wpList Oper.wp wpQuiet
abbrev bA:Array Value:=#[.int .u8 2,.int .u8 0,.int .u8 0,.bool false,.int .u8 1,.bool false,.int .u8 0,.int .u8 0,.int .u8 0,.int .u8 0,.int .u8 1,.int .u8 0,.int .u8 1,.bool false,.int .u8 0,.bool false,.int .u8 0,.int .u8 0,.int .u8 0,.int .u8 0]
abbrev bB:Array Value:=#[.int .u8 2,.int .u8 0,.int .u8 1,.bool false,.int .u8 1,.bool false,.int .u8 0,.int .u8 0,.int .u8 0,.int .u8 0,.int .u8 1,.int .u8 0,.int .u8 0,.bool false,.int .u8 0,.bool false,.int .u8 0,.int .u8 0,.int .u8 0,.int .u8 0]
abbrev bC:Array Value:=#[.string ⟨#[120]⟩,.string ⟨#[121]⟩]
abbrev bD:Array Value:=#[.int .u8 0,.int .u8 0]
abbrev bW(a b:World):Array Value:=#[.slice a.1.size 2 2,.slice b.1.size 2 2]
abbrev bE(w a:World):Array Value:=#[.string ⟨#[115,98]⟩,.slice w.1.size 2 2,.slice (w.1.size+1:Nat) 2 2,.slice (a.1.size+1:Nat) 2 2,.int .u8 1,.int .u8 0,.int .u8 0,.int .u8 0,.int .u8 0,nS]
def T5(z)(w):Calls prog 11 #[.int .u8 z] w (Rs (.agg #[.int .u8 2,.int .u8 0,.int .u8 z,.bool false,.int .u8 1,.bool false,.int .u8 0,.int .u8 0,.int .u8 0,.int .u8 0]) w):=by
 go_enter func11,ntmps11;go_wp2;refine bK (mT rfl _ (aj.dq w 36 10 (fun i=>(#[.int .u8 2,.int .u8 0,.int .u8 z,.bool false,.int .u8 1,.bool false,.int .u8 0,.int .u8 0,.int .u8 0,.int .u8 0]:Array Value)[i]!) _ rfl) _ rfl mr rfl kz) rfl ⟨rfl,ba w _⟩
def Ul(z)(w):Calls prog 12 #[.int .u8 z] w (Rs (.agg #[.int .u8 1,.int .u8 0,.int .u8 z,.bool false,.int .u8 0,.bool false,.int .u8 0,.int .u8 0,.int .u8 0,.int .u8 0]) w):=by
 go_enter func12,ntmps12;go_wp2;refine bK (mT rfl _ (aj.dq w 36 10 (fun i=>(#[.int .u8 1,.int .u8 0,.int .u8 z,.bool false,.int .u8 0,.bool false,.int .u8 0,.int .u8 0,.int .u8 0,.int .u8 0]:Array Value)[i]!) _ rfl) _ rfl mr rfl kz) rfl ⟨rfl,ba w _⟩
def abx(w):(zeroValue 29).run prog w= .ok (.agg #[.string .empty,nS,nS,nS,.int .u8 0,.int .u8 0,.int .u8 0,.int .u8 0,.int .u8 0,nS]) w:=by kernel_rfl
def CR{W W':World}(cs:List Value){e}(h:Below (W.alloc (.cells cs.toArray e)) (W.alloc (.cells cs.toArray e)) W'){b}(a:b=W.1.size):b<W'.1.size/\∀(j:Nat) u,cs[j]? =some u->W'.cell? ⟨b,j,none⟩=some u:=by
 subst a;refine⟨aW (by simp) h.size,fun j u c=>?_⟩;have:=oy W cs e j u c;rw[eV,cK]at this;exact(h.C (p:=⟨W.1.size,j,none⟩) (by simp)).t this
def Nn{W}{b:Nat}{x y}{cs}(a:b<W.1.size)(c:∀(j:Nat) u,cs[j]? =some u->W.cell? ⟨b,j,none⟩=some u)(e:cs=(aV x).toList++(aV y).toList):jG W b [x,y]:=fun _=>by
 have:∀x,(aV x).toList.length=10:=fun _=>rfl
 grind
def aaM(w w1 w2 w3 w4 WF)(r:Below (((w.alloc (.cells bC 9)).alloc (.cells bD 5))) (((w.alloc (.cells bC 9)).alloc (.cells bD 5))) w1)(C:Below w1.1.size w1 w2)(n:Below (w2.alloc (.cells bA 36)) (w2.alloc (.cells bA 36)) w3)(s:Below w3.1.size w3 w4)(g:WF=((w4.alloc (.cells bB 36)).alloc (.cells (bW w2 w4) 32)).alloc (.cells (bE w w4) 29))(G)(o:G=(bE w w4)):
 mM WF (fun i=>G[i]!) lC/\aj WF (w4.1.size+2) 29 10 (fun i=>G[i]!)/\G=J 10 (fun i=>G[i]!)/\Below w.1.size w WF:=by
 have p:=r.t (C.m r.size);have t:=(p.alloc p.size (.cells bA 36)).t (n.m (aO p.size (by rw[cT];omega)));have l:=t.t (s.m t.size);have q:Below (((w.alloc (.cells bC 9)).alloc (.cells bD 5))) (((w.alloc (.cells bC 9)).alloc (.cells bD 5))) WF:=by rw[g];exact((l.alloc l.size _).alloc (by simp;have:=l.size;simp at this;omega) _).alloc (by simp;have:=l.size;simp at this;omega) _
 have m:=n.t (s.m n.size);have E:Below (w2.alloc (.cells bA 36)) (w2.alloc (.cells bA 36)) WF:=by rw[g];exact((m.alloc m.size _).alloc (by simp;have:=m.size;simp at this;omega) _).alloc (by simp;have:=m.size;simp at this;omega) _
 have F:Below (w4.alloc (.cells bB 36)) (w4.alloc (.cells bB 36)) WF:=by rw[g];exact(ba _ _).alloc (by simp) _
 have H:Below ((w4.alloc (.cells bB 36)).alloc (.cells (bW w2 w4) 32)) ((w4.alloc (.cells bB 36)).alloc (.cells (bW w2 w4) 32)) WF:=by rw[g];exact ba _ _
 have⟨n0,u⟩:=CR bC.toList (((aP _ ((w.alloc (.cells bC 9)))).alloc (av _) _).t (q.m (by simp))) rfl;have⟨I,v⟩:=CR bD.toList q (b:=w.1.size+1) (by simp);have⟨y,L⟩:=CR bA.toList E rfl;have⟨z,M⟩:=CR bB.toList F rfl;have⟨t0,t1⟩:=CR (bW w2 w4).toList H (b:=w4.1.size+1) (by simp);have A:G=J 10 (fun i=>G[i]!):=by rw[o];rfl
 have c:∀i,(fun i:Nat=>G[i]!) i=(bE w w4)[i]!:=fun i=>by rw[o]
 have N:jG WF w2.1.size [uJ 0,wF 1]:=Nn y L rfl;have O:jG WF w4.1.size [uJ 1,wF 0]:=Nn z M rfl;refine⟨⟨c 0,⟨_,_,c 1,av _,fun _=>⟨w.1.size,0,rfl,n0,fun i x f=>?_⟩⟩,⟨⟨_,_,c 1⟩,⟨_,_,c 2,fun _=>⟨w.1.size+1,0,rfl,I,fun i x f=>?_⟩⟩,⟨_,_,c 3,fun _=>⟨w4.1.size+1,0,rfl,t0,fun i x f=>?_⟩⟩⟩,c 4,⟨⟨c 5,c 6,c 7,c 8⟩,none,0,c 9,aQ _,fun h=>absurd h (n9 _)⟩,by show 2<=maxLen;unfold maxLen;decide⟩,?_,A,?_⟩
 .rw[cK];have j:i=0\/i=1:=by have:=(bL.1 f).1;simp[lC]at this;omega
  obtain rfl|rfl:=j
  .cases f;exact u 0 _ rfl
  cases f;exact u 1 _ rfl
 .rw[cK];have j:i=0\/i=1:=by have:=(bL.1 f).1;simp[lC,ml.prog]at this;omega
  obtain rfl|rfl:=j
  .cases f;exact v 0 _ rfl
  cases f;exact v 1 _ rfl
 .rw[cK];have j:i=0\/i=1:=by have:=(bL.1 f).1;simp[lC,ml.prog]at this;omega
  obtain rfl|rfl:=j
  .cases f;exact⟨_,_,t1 0 _ rfl,N,fun a e _=>by cases e;exact y⟩
  cases f;exact⟨_,_,t1 1 _ rfl,O,fun a e _=>by cases e;exact z⟩
 .rw[g];have:=aj.dq ((w4.alloc (.cells bB 36)).alloc (.cells (bW w2 w4) 32)) 29 10 (fun i=>G[i]!) ((bE w w4)) (by rw[<-o];exact A);simpa using this
 have:=((ba w (.cells bC 9)).alloc (by simp) (.cells bD 5)).t (q.m (by simp;omega));exact this
def ag6(w:World)(x:bh w):Calls prog 5 #[] w (Rs (.bool true) w):=by
 have:=Qe;have:=abx;have f:=H x;clear x;go_enter func5,ntmps5
 go_upto_region 4 with(first|(go_at_call 11;first|((with_reducible refine(T5 0 _).m ?_);rintro e Q ⟨rfl,y⟩)|((with_reducible refine(T5 1 _).m ?_);rintro e R ⟨rfl,z⟩))|(go_at_call 12;first|((with_reducible refine(Ul 1 _).m ?_);rintro e A ⟨rfl,C⟩)|((with_reducible refine(Ul 0 _).m ?_);rintro e b ⟨rfl,E⟩)))
 have⟨c,l⟩:=eX (((b.alloc (.cells bB 36)).alloc (.cells (bW A b) 32)).alloc (.cells (bE w b) 29));have⟨G,g⟩:=eX (bE w b);unfold bE at g;have F:mM c (fun i=>G[i]!) lC/\aj c (b.1.size+2) 29 10 (fun i=>G[i]!)/\G=J 10 (fun i=>G[i]!)/\Below w w c:=aaM w Q A R b c y C z E l G g;rw[<-l];simp only[mq,Nat.reduceAdd];have a:=H F;clear F l y C z E;obtain⟨n,o,I,L⟩:=afo;rw[<-g];have p:∀m:Nat,2<=m->m<=4->∀W,Below c c W->Calls prog 6 #[.agg G,.int .u8 m,.int .i64 100] W fun e q=>∃v,e= .returned (.tuple #[v,.int .i64 0])/\q.ownsRow W.1.size 58 38 v (fy (gJ m n)).length (fw (fy (gJ m n)))/\Below W.1.size W q:=fun m r T W M=>by
  have X:=(f.y.Z a.D f.y.lt).Z M (f.y.Z a.D f.y.lt).lt;have:=MI (fun i=>G[i]!) lC m 100 W (a.a.Z M) X ZP r T (dr rfl);rw[<-a.c]at this;refine this.m ?_;rintro e q ⟨v,rfl,aa,r⟩;rw[o];exact⟨v,rfl,aa n o,r⟩
 have h:=aY (p 2 (dr rfl) (dr rfl)) (p 3 (dr rfl) (dr rfl)) I L;clear p I L o g
 go_upto_region 5 with(first|(refine br 0 10 a.b (cD a.c) (dr rfl) fN rfl gC rfl ?_)|(go_at_call 6;refine(h.a _ (aP _ _)).m ?_;rintro e ae ⟨v,rfl,N,O⟩))
 have s:=N;rw[h.c]at s;obtain⟨af,ag,rfl⟩:=bo s (dr rfl);have j:=H O;clear N s O
 go_wp2_with (first|(refine br 0 10 (a.b.Z j.y a.b.lt) (cD a.c) (dr rfl) fN rfl gC rfl ?_)|(go_at_call 6;refine(h.b _ j.y).m ?_;rintro e ah ⟨u,rfl,t,P⟩;rw[h.D]at t;have⟨ai,ak,ab⟩:=bo t (dr rfl);subst ab;have ad:=H P;clear t P))
 go_ret;exact⟨rfl,a.D.t ((j.y.t (ad.y.m j.y.size)).m a.D.size)⟩
end
end Go.Proofs.YtilhngjecfdgpaaGreatDoor
