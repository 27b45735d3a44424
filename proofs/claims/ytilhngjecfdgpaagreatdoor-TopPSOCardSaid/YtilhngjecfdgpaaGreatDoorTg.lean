/- Part 7 of 9 of the proof of seisintop.TopPSO (theorem topPSO.card, at the end of the last part), its names and blanks shortened by a program to fit a claim's bound; it holds the texts Uk Ug Uh Wb Wh Wc Wd We Wf Wg Uo Wi Wj Va Ln Lm Lo Lh Lk Lp Lq Lr Ls Lt Vb, one behind the other. -/
import Derived.Test.YtilhngjecfdgpaaGreatDoorTf
set_option linter.all false
set_option linter.defProp false
set_option linter.unusedVariables false
set_option linter.unusedSimpArgs false
set_option maxRecDepth 100000
set_option maxHeartbeats 16000000
namespace Go.Proofs.YtilhngjecfdgpaaGreatDoor
open Go.RowKit Go.Shelf Go.Proofs.Tryz
def yS(s:ByteArray)(l:List Tk):List Value:=l.flatMap fun t=>(J 3 (eN s t)).toList
def XS(s)(l)(t):yS s (l++[t])=yS s l++(J 3 (eN s t)).toList:=by unfold yS;rw[oI];simp
def TU(s):∀n k a,(qL s n k a)<=n
 |0,_,_=>by unfold qL;exact av _
 |n+1,k,a=>by
  unfold qL;cases qt s k a with
  |none=>exact aQ _
  |some r=>exact Nat.succ_le_succ (TU s n r.2.1 r.2.2)
def ZX{s}(h:s.size<=16384):(mI s 0 false).length<=32769:=by
 have:=TU s (nX s 0 false+1) 0 false;unfold mI;have:nX s 0 false=2*s.size:=by unfold nX;simp
 omega
def rE(s:ByteArray):Bool:=decide (s.size<=16384)&&(pd s).all fun t=>sh t.kind (jf s t)==0
section
attribute [local irreducible] Code.wp wpList Oper.wp wpQuiet
def aaO(b:Nat)(w):Calls prog 148 #[.pointer b] w fun e a=>e= .returned (.func (.func 203) #[] #[.pointer w])/\a=w.alloc (.cells #[.pointer b] 301):=by
 go_enter func148,ntmps148;go_wp2;go_ret;exact⟨rfl,rfl⟩
def LJ{P}{fn}{p q r:Tmp}{t1 t2 t3}(h:fn.results=#[.cell p t1,.cell q t2,.cell r t3])(a:∀w,(isAgg t1).run P w= .ok false w)(e:∀w,(isAgg t2).run P w= .ok false w)(f:∀w,(isAgg t3).run P w= .ok false w)(tmps)(w)(b c d:Nat)(v u x)
 (o:tmps.getD p undef= .pointer b)(s:tmps.getD q undef= .pointer c)(t:tmps.getD r undef= .pointer d)(g:w.cell? b=some v)(i:w.cell? c=some u)(j:w.cell? d=some x):
 (results fn tmps).run P w= .ok (.tuple #[v,u,x]) w:=by
 have l:tmps[p]?.getD undef= .pointer b:=by simp_all
 have m:tmps[q]?.getD undef= .pointer c:=by simp_all
 have n:tmps[r]?.getD undef= .pointer d:=by simp_all
 simp[results,h,l,m,n,asAddr,loadVar,eD,a,e,f,go_sem,g,i,j]
def O2(w:World)(t1 t2 t3)(a b c):∃W,W=((w.alloc (.cells #[a] t1)).alloc (.cells #[b] t2)).alloc (.cells #[c] t3)/\Boxed W w t1 a/\Boxed W (w+1) t2 b/\Boxed W (w+2) t3 c/\Below w w W/\W.1.size=w+3:=by
 have e:=(dE (w.alloc (.cells #[a] t1)) t2 b).alloc (.cells #[c] t3);have f:=dE ((w.alloc (.cells #[a] t1)).alloc (.cells #[b] t2)) t3 c;simp only[cT,mq,Nat.reduceAdd]at e f;exact⟨_,rfl,((dE w _ _).alloc _).alloc _,e,f,((ba w _).alloc (by simp) _).alloc (by simp;omega) _,by simp⟩
def agB(s:ByteArray)(w:World)(e:Ending)(b:World):Prop:=Below w w b/\∃v c a,e= .returned (.tuple #[v,c,.int .i64 a])/\((a≠0/\rE s=false/\v=nS)\/(a=0/\rE s=true/\b.ownsRow w.1.size 180 3 v (pd s).length (yS s (pd s))))
structure DP(w:World)(s:ByteArray)(pre:List Tk)(fp:List Nat)(W:World):Prop where
 ex:∃v,Boxed W w.1.size 175 v/\W.ownsRow (w.1.size+5) 180 3 v pre.length (yS s pre)/\∀b,v.ownBlock=some b->b∈fp
 pl:Boxed W (w.1.size+1) 3 (.int .i64 0)
 er:Boxed W (w.1.size+2) 38 (.int .i64 0)
 tok:T7 (w.1.size+4) (w.1.size+3) fp W
 y:Below w w W
 ok:∀t∈pre,sh t.kind (jf s t)=0
 gF:∀q∈fp,w.1.size+5<=q
def DP.steps{w}{s}{pre}{fp}{W W'}{B:Nat}(h:DP w s pre fp W)(y:w+5<=B)(f:qc.Steps B [w+3] fp W W'):DP w s pre fp W':=by
 have key:∀{q:Nat}{t:TypeId}{v:Value},q<w+5->q≠w+3->Boxed W q t v->Boxed W' q t v:=fun g i h=>(f.block _ h.lt (.inl ⟨by omega,by grind⟩)).t h;have⟨v,g,i,o⟩:=h.ex;have⟨t1,t2,t3⟩:=h.tok;have r:=f.size;exact⟨⟨v,key (by omega) (by omega) g,dJ i fun b e u=>f.block b u (.inr (o b e)),o⟩,key (by omega) (by omega) h.pl,key (by omega) (by omega) h.er,⟨key (by omega) (by omega) t1,t2,fun q u=>aW (t3 q u) r⟩,
  ⟨f.os.t h.y.os,f.tape.t h.y.tape,f.output.t h.y.output,aO h.y.size r,fun k u=>(f.block k (aW u h.y.size) (.inl ⟨by omega,by grind⟩)).t (h.y.block k u)⟩,h.ok,h.gF⟩
structure Sw(w:World)(s:ByteArray)(c:Code)(W:World):Prop where
 ret:c= .ret
 l:Boxed W w.1.size 175 nS
 p:∃z,Boxed W (w.1.size+1) 3 (.int .i64 z)
 e:∃z,z≠0/\Boxed W (w.1.size+2) 38 (.int .i64 z)
 y:Below w w W
 bad:rE s=false
def D0(w:World)(s:ByteArray)(v u:Value)(a:Act)(W:World):Prop:=∃(q:Nat)(g:Nat->Value),v= .agg (J 3 g)/\(∀i,i<3->(g i).oneCell'=true)/\aj W q 180 3 g/\a={tmps:=#[.string s,undef,.pointer w,.pointer (w.1.size+1:Nat),.pointer (w.1.size+2:Nat),.pointer (w.1.size+3:Nat),.pointer q,u,.string s,.int .i64 (s.size:Int),.bool false,.string s,
 .agg #[.string s,.int .i64 0],.agg #[.string s,.int .i64 0,.bool false],.func (.func 203) #[] #[.pointer (w.1.size+4:Nat)],v,u,undef,undef,undef,undef,undef,undef,undef,undef,undef,undef],defers:=[]}
def D0.put{w}{s}{v u}{a'}{W}{l}{f y:Obj}(i:W.1[l]? =f)(A:f.isCells=false)(h:D0 w s v u a' W):D0 w s v u a' (W.putObj l y):=by
 obtain⟨q,g,C,E,o,F⟩:=h;refine⟨q,g,C,E,(dX (fun e=>?_)).t o,F⟩;have r:=o;rw[e]at r;rw[r]at i;cases i;cases A
attribute [local go_sem] Oper.semAt_some
def abM:(prog.info? 180).map (fun i=>(i.zero,i.size,i.bytes))=some (some (.agg #[.int .u8 0,.string .empty,.int .i64 0]),3,32):=by kernel_rfl
def acV(s:ByteArray)(w:World):Calls prog 88 #[.string s] w (agB s w):=by
 by_cases C:16384<s.size
 .have bf:(16384:Int)<s.size:=by omega
  have f:rE s=false:=by unfold rE;rw[gX (by omega)];rfl
  have a4:=H f;clear f C;go_enter func88,ntmps88
  go_wp2_with fail
  have⟨W,a5,f,j,m,I,_⟩:=O2 w 175 3 38 nS (.int .i64 0) (.int .i64 3);rw[<-a5];refine bK (LJ rfl (fun _=>by kernel_rfl) (fun _=>by kernel_rfl) (fun _=>by kernel_rfl) _ _ w (w+1) (w+1+1) nS (.int .i64 0) (.int .i64 3) rfl rfl rfl f.C j.C m.C) rfl ?_;exact⟨I,_,_,_,rfl,.inl ⟨by decide,a4.y,rfl⟩⟩
 have:¬(16384:Int)<s.size:=by omega
 have ag:s.size<=16384:=by omega
 have⟨aM,a6,f,j,m,y,A⟩:=O2 w 175 3 38 nS (.int .i64 0) (.int .i64 0);have⟨ak,p⟩:=eX (aM.alloc (.cells #[.string s,.int .i64 0,.bool false] 260));have al:ak.1.size=w+4:=by rw[p];simp[A]
 have E:∀ah,ah=ak.alloc (.cells #[.pointer (w+3:Nat)] 301)->ah.1.size=w+5/\DP w s [] [] ah/\dS ah (w+3) s 0 false:=by
  rintro ah rfl;have av:=jZ aM (.cells #[.string s,.int .i64 0,.bool false] 260);have aN:=dE ak 301 (.pointer (w+3:Nat));have aw:=y.alloc y.size (.cells #[.string s,.int .i64 0,.bool false] 260);have aO:=f.alloc (.cells #[.string s,.int .i64 0,.bool false] 260);have aR:=j.alloc (.cells #[.string s,.int .i64 0,.bool false] 260);have aS:=m.alloc (.cells #[.string s,.int .i64 0,.bool false] 260);rw[<-p]at aO aR aS av aw;rw[A]at av;rw[al]at aN;refine⟨by simp[al],⟨⟨_,aO.alloc _,gI _ _ _ _,fun b h=>(by cases h)⟩,aR.alloc _,aS.alloc _,⟨aN,by simp,fun q Q=>(by cases Q)⟩,aw.alloc aw.size _,fun t ax=>(by cases ax),fun q Q=>(by cases Q)⟩,⟨?_,aQ _,ag⟩⟩;exact(fF _ _ _ (by rw[al];omega)).t av
 subst a6;clear f j m y A;have aT:=aA E p;clear E p C;refine(dh (n:=9)).1 ?_;refine sZ func88 rfl trivial ?_ rfl;simp only[ntmps88,jC,gL,iP,Nat.reduceAdd,Nat.reduceSub,j8,j5,kh,kj,gG,iJ]
 gi_wp2_with fail
 rw[<-aT.B];simp only[mq,Nat.reduceAdd];refine⟨trivial,(dh.2 (aaO (w+3) ak)).m ?_⟩;rintro e ay ⟨rfl,f⟩;have⟨a7,j,m⟩:=aT.a ay f;rw[al];have az:=aA j m;clear j m f
 gi_wp2
 refine np.two (n:=9) rfl (by omega) (gf:=203) (lb:=#[.pointer (w+4:Nat)]) rfl trivial (gH func203 (by kernel_rfl) rfl) (aP _ _) (DP w s) (fun c _ W=>Sw w s c W) (fun C O W h=>h.tok) (fun c C W l aU aB E p F R=>?ix) [] (fun b I=>by cases I) az.a ?done ?stop (afx (w+4) (w+3) s 0 false ay az.B az.a.tok.1 8) (fun b I=>by rw[lh.1 I,a7];omega) rfl (fun x v u W l aU aB E p F=>F) (fun C O W W' h ag=>h.steps (by omega) ag) _ (fun _ _ h=>h) (D0 w s) ?assign (fun v u a W l aU aB E p F=>F.put E p) (fun x v u W W' I h=>h) ?body
 case ix=>exact⟨R.ret,(dX (by omega)).t R.l,R.p.imp fun z h=>(dX (by omega)).t h,R.e.imp fun z h=>⟨h.1,(dX (by omega)).t h.2⟩,R.y.b (eC W l aB) R.y.size (fun k e=>by cases e;omega),R.bad⟩
 case assign=>
  rintro l x v u W K ⟨rfl,rfl⟩ j;have⟨G,L⟩:=eX (J 3 (eN s x));have⟨T,M⟩:=eX (sh x.kind (jf s x));have⟨aV,f⟩:=eX (#[.int .u8 0,.string .empty,.int .i64 0]:Array Value);have a8:=EH;rw[<-f]at a8;have aC:aV.size=3:=by rw[f];rfl
  have bg:¬aV=#[]:=by intro e;rw[e]at aC;exact absurd aC (dr rfl)
  rw[<-M,<-L]at j⊢;have aD:=aA L j;clear L j M f
  gi_wp2_with (refine Kl (eN s x) aD.a aC jc (fun i _=>qK _ _ _) rfl rfl ?_;intro y f m)
  exact aD.B _ _ m ⟨_,_,by rw[aD.a],fun i _=>qK _ _ _,f,rfl⟩
 case body=>
  rintro l C O x v u bh W f X ⟨aE,aa⟩ ⟨q,g,am,aF,ae,rfl⟩ bi ab;have⟨T,M⟩:=eX (sh x.kind (jf s x));rw[<-M]at aa;subst aa;have an:∀i,i<3->g i=eN s x i:=fun i aG=>by
   rw[aE]at am;injection am with e;exact(FW e i aG).s
  by_cases ao:T=0
  .subst ao;have⟨aW,y,A,N⟩:=f.ex;obtain⟨P,aH,rfl⟩:=bo A (dr rfl);have⟨aX,aY,aZ,a0,a9⟩:=eQ abM;have⟨G,L⟩:=eX (J 3 g);have ap:=L.t (gP an);have aq:G.size=3:=by rw[L,dF]
   have:C.length<32769:=by have:=X.length_le;have:=ZX ag;simp at*;omega
   have:=y.C;have aI:=y.not_row (dr rfl) A;have bb:((Value.agg #[.int .u8 0,.string .empty,.int .i64 0]).cells).size=3:=rfl;have aJ:∀u∈G.toList,u.oneCell'=true:=fun u aa=>by
    rw[L]at aa;obtain⟨i,aG,rfl⟩:=bX.1 (aa);exact aF i (fS.1 aG)
   have:=f.y.size;have:w.1.size+5<=W.1.size:=by omega
   have m:=yn f y A N ae L aJ aI M ap X;clear f y A N ae L aJ aI M ap X an aE am aF ab
   gi_wp2_with (first|(refine OJ 0 3 m.e (cD m.f) (dr rfl) pB rfl jc rfl ?_)|(refine D7 (fun _=>trivial) rfl 175 (.tmp 23) rfl 180 G aX _ rfl underlying175 aY aZ (by rw[a0,aq]) (by rw[aq];decide) (by rw[aq];decide) ?_;simp only[o])|(gi_at_builtin;refine sX _ (fun _=>trivial) rfl _ _ 175 rfl (w+5) 180 aX _ 3 32 underlying175 aY aZ a0 a9 bb (dr rfl) _ C _ rfl (m.c.alloc _) W 1 1 G.toList rfl (by simp[aq]) (oy W _ _) m.g (by unfold maxLen;omega) (by omega) (by simp;omega) ?_;intro ar w9 aj af a1;have⟨ab,ad,ai⟩:=bo aj (dr rfl);subst ai;have au:=(m.b.alloc (.cells G 180)).K af m.h;have:=au.C;have:=au.frozen;simp only[o]))
   have⟨f,y,A,N,ae,L,aJ,aI,M,ap,X⟩:=m.y;have a2:(W.alloc (.cells G 180)).1.size=W+1:=by simp
   have bc:=af.size;rw[a2]at bc a1;have key:∀b,b<W.1.size->b≠w.1.size->(Value.slice P C.length aH).ownBlock≠some b->(w9.setCell (w.1.size:Nat) (.slice ab (C.length+1) ad)).1[b]? =W.1[b]?:=fun b E p F=>(cP _ _ _ _ p).t ((af.block b (by rw[a2];omega) (fun e=>F e.s)).t (fF _ _ _ (by omega)));have aK:(w9.setCell w (.slice ab (C+1) ad)).1.size=w9:=by simp[World.setCell]
   have a3:∀b,(Value.slice P C.length aH).ownBlock=some b->w.1.size+5<=b/\b<W.1.size:=fun b e=>A.lt b e;have ar:∀b,(Value.slice ab (C.length+1) ad).ownBlock=some b->w.1.size+5<=b/\b<w9.1.size:=fun b e=>aj.lt b e;have ai:∀b,b∈O++(Value.slice ab (C+1) ad).ownBlock.toList↔b∈O\/(Value.slice ab (C+1) ad).ownBlock=b:=fun b=>by rw[mg,Option.mem_toList]
   have aL:∀{b:Nat}{t:TypeId}{v:Value},b<w+5->b≠w->Boxed W b t v->Boxed (w9.setCell w (.slice ab (C+1) ad)) b t v:=fun{b t v} E p h=>(key b (by omega) p (fun e=>by have:=(a3 b e).1;omega)).t h;have⟨t1,t2,t3⟩:=f.tok;refine⟨O++(Value.slice ab (C+1) ad).ownBlock.toList,⟨⟨_,au.set _,?_,fun b e=>(ai b).2 (.inr e)⟩,aL (by omega) (by omega) f.pl,aL (by omega) (by omega) f.er,⟨aL (by omega) (by omega) t1,fun h=>?_,fun q Q=>?_⟩,?_,fun u aa=>?_,fun q Q=>?_⟩,⟨?_,fun b I=>?_,fun b E p F=>?_⟩⟩
   .rw[dc,qz,XS,<-ap];exact dJ aj fun b e ad=>cP _ _ _ _ (by have:=(ar b e).1;show b≠w;omega)
   .obtain h|h:=(ai _).1 h
    .exact t2 h
    have:=(ar _ h).1;omega
   .rw[aK];obtain h|h:=(ai _).1 Q
    .have:=t3 q h;omega
    exact(ar _ h).2
   .exact⟨af.os.t f.y.os,af.tape.t f.y.tape,af.output.t f.y.output,by rw[aK];omega,fun k af=>(key k (by omega) (by omega) (fun e=>by have:=(a3 k e).1;omega)).t (f.y.block k af)⟩
   .obtain h|h:=mg.1 aa
    .exact f.ok u h
    rw[lh.1 h];exact M.s
   .obtain h|h:=(ai _).1 Q
    .exact f.gF q h
    exact(ar _ h).1
   .rw[aK];omega
   .obtain h|h:=(ai _).1 I
    .exact .inl h
    obtain h|h:=a1 b h
    .exact .inl (N b h)
    exact .inr (by omega)
   refine key b p (fun e=>?_) (fun e=>F (N b e));subst e;obtain h|h:=E
   .omega
   have:=lh.1 h;omega
  have:(T !=0)=true:=by simpa using ao
  have⟨aW,y,A,N⟩:=f.ex;have aH:=y.C;have f0:=y.frozen;have bj:=f.pl.C;have f1:=f.pl.frozen;have bl:=f.er.C;have f2:=f.er.frozen;have au:∀{b:Nat}{t:TypeId}{v:Value},Boxed W b t v->¬q=b:=fun{b t v} I e=>by
   subst e;have E:=I;have p:W.1[q]? =_:=ae;rw[E]at p;injection p with p;injection p with p _;have:=cg Array.size p;rw[dF]at this;simp at this
  have:=au y;have:=au f.pl;have:=au f.er;have⟨z,a1⟩:=eX ((x.b:Nat):Int);have:W.cell? ⟨q,2,none⟩=some z:=by rw[a1];exact(ae.C 2 (dr rfl)).t (cs (an 2 (dr rfl)))
  have aj:rE s=false:=by
   unfold rE;rw[PS];refine .inr (xd.2 ⟨x,?_,by rw[<-M];simpa using ao⟩);rw[Jg];obtain⟨r,bd⟩:=X;rw[<-bd];simp
  have Q:∀W',W'=(((W.setCell w nS).setCell (w+1:Nat) z).setCell (w+2:Nat) T).drew->∃be,Sw w s .ret W'/\qc.fh ay [w+3] O be W W':=by
   rintro W' rfl;have ab:∀b,b≠w.1.size->b≠w.1.size+1->b≠w.1.size+2->((((W.setCell (w.1.size:Nat) nS).setCell (w.1.size+1:Nat) (.int .i64 z)).setCell (w.1.size+2:Nat) (.int .i64 T)).drew).1[b]? =W.1[b]?:=fun b E p F=>(cP _ _ _ _ F).t ((cP _ _ _ _ p).t (cP _ _ _ _ E));refine⟨O,⟨rfl,((y.set nS).other (by show _≠_;omega) _).other (by show _≠_;omega) _,⟨z,((f.pl.other (by show _≠_;omega) _).set _).other (by show _≠_;omega) _⟩,⟨T,ao,((f.er.other (by show _≠_;omega) _).other (by show _≠_;omega) _).set _⟩,⟨f.y.os,f.y.tape,f.y.output,by simpa[World.setCell,World.drew]using f.y.size,fun k af=>(ab k (by omega) (by omega) (by omega)).t (f.y.block k af)⟩,aj⟩,⟨by simp[World.setCell,World.drew],fun b I=> .inl I,fun b E p F=>?_⟩⟩;have:w+3<=b:=by
    obtain h|h:=E
    .omega
    have:=lh.1 h;omega
   exact ab b (by omega) (by omega) (by omega)
  have m:=H Q;clear Q f X M ae y A N au an aj a1 aE am aF
  gi_wp2
  refine yh (by kernel_rfl) (by kernel_rfl) (fun h=>by obtain⟨_,_,h⟩:=h;exact h) ?_;change wpAny _ _ _ _ _ _ _ (World.drew _);refine wpAny_take (i:=0) (v:=?_) rfl (by kernel_rfl) (by kernel_rfl) (by kernel_rfl) (fun _ _ _ h=>h) (Or.inl ⟨by rfl,?_⟩) ?_
  rotate_left
  .intro w;go_simp;try(with_reducible rfl)
  refine wpAny_take (i:=2) (v:=?_) rfl (by kernel_rfl) (by kernel_rfl) (by kernel_rfl) (fun _ _ _ h=>h) (Or.inl ⟨by rfl,?_⟩) ?_
  rotate_left
  .intro w;go_simp;try(with_reducible rfl)
  refine xS (rs:=[1,3]) (by kernel_rfl) (by simp) ?_;refine uB rfl (fun K j=>?_) (uB rfl (fun K j=>?_) yw)
  .go_simp;refine j _ _ ?_;clear j K;refine xS (rs:=[3]) (by kernel_rfl) (by simp) ?_;refine uB rfl (fun K j=>?_) yw;go_simp;refine j _ _ ?_;clear j K;refine xS (rs:=[4]) (by kernel_rfl) (by simp) ?_;refine uB rfl (fun K j=>?_) yw;go_simp;refine j _ _ ?_;clear j K;refine xS (rs:=[5]) (by kernel_rfl) (by simp) ?_;refine uB rfl (fun K j=>?_) yw;go_simp;refine j _ _ ?_;clear j K;refine wpAny_done (by kernel_rfl) ?_ _
   gi_wp2
   exact m.y _ rfl
  go_simp;refine j _ _ ?_;clear j K;refine xS (rs:=[1]) (by kernel_rfl) (by simp) ?_;refine uB rfl (fun K j=>?_) yw;go_simp;refine j _ _ ?_;clear j K;refine xS (rs:=[4]) (by kernel_rfl) (by simp) ?_;refine uB rfl (fun K j=>?_) yw;go_simp;refine j _ _ ?_;clear j K;refine xS (rs:=[5]) (by kernel_rfl) (by simp) ?_;refine uB rfl (fun K j=>?_) yw;go_simp;refine j _ _ ?_;clear j K;refine wpAny_done (by kernel_rfl) ?_ _
  gi_wp2
  exact m.y _ rfl
 case stop=>
  rintro D c C W au X ⟨rfl,ad,⟨z,M⟩,⟨T,ae,am⟩,an,aj⟩ j;have m:=dC ad M am ae an aj;clear ad M am ae an aj
  gi_wp2
  have key:∀{b:Nat}{t:TypeId}{v:Value},Boxed W b t v->(W.putObj D (.deferred none)).cell? b=some v:=fun{b t v} h=>iR h.C (eC _ D (.deferred none)) (fun r e=>by cases e;exact⟨_,j,rfl⟩);refine⟨by simp,.inl ⟨_,_,rfl,mj j,?_⟩⟩;refine⟨_,LJ rfl (fun _=>by kernel_rfl) (fun _=>by kernel_rfl) (fun _=>by kernel_rfl) _ _ w (w+1) (w+2) _ _ _ rfl rfl rfl (key m.a) (key m.b) (key m.c),?_⟩;exact⟨m.e.b (eC W D _) m.e.size (fun k e=>by cases e;omega),_,_,_,rfl,.inl ⟨m.d,m.F,rfl⟩⟩
 rintro D O W au f ae j;have⟨aW,y,A,N⟩:=f.ex;have⟨C,O⟩:=eX (mI s 0 false).length;rw[<-O]at A;obtain⟨P,M,rfl⟩:=bo A (dr rfl);have:=y.C;have:=y.frozen;have:=f.pl.frozen;have:=f.er.frozen;have:=f.pl.C;have:=f.er.C;have Q:∀W',W'=((W.setCell (w.1.size:Nat) (.slice P C M)).setCell (w.1.size+1:Nat) (.int .i64 0)).setCell (w.1.size+2:Nat) (.int .i64 0)->Boxed W' w.1.size 175 (.slice P C M)/\Boxed W' (w.1.size+1) 3 (.int .i64 0)/\Boxed W' (w.1.size+2) 38 (.int .i64 0)/\Below w.1.size w W'/\W'.ownsRow w.1.size 180 3 (.slice P C M) C (yS s (mI s 0 false))/\W'.1[D]? =some (.deferred (some [])):=by
  rintro W' rfl;have ab:∀b,b≠w.1.size->b≠w.1.size+1->b≠w.1.size+2->(((W.setCell (w.1.size:Nat) (.slice P C M)).setCell (w.1.size+1:Nat) (.int .i64 0)).setCell (w.1.size+2:Nat) (.int .i64 0)).1[b]? =W.1[b]?:=fun b E p F=>(cP _ _ _ _ F).t ((cP _ _ _ _ p).t (cP _ _ _ _ E));exact⟨((y.set _).other (by show _≠_;omega) _).other (by show _≠_;omega) _,((f.pl.other (by show _≠_;omega) _).set _).other (by show _≠_;omega) _,((f.er.other (by show _≠_;omega) _).other (by show _≠_;omega) _).set _,
   ⟨f.y.os,f.y.tape,f.y.output,by simpa[World.setCell]using f.y.size,fun k af=>(ab k (by omega) (by omega) (by omega)).t (f.y.block k af)⟩,ft (dJ A fun b e ad=>ab b (by have:=(A.lt b e).1;omega) (by have:=(A.lt b e).1;omega) (by have:=(A.lt b e).1;omega)) (by omega),(ab D (by omega) (by omega) (by omega)).t j⟩
 have af:rE s=true:=by
  unfold rE;rw[fB ag,kQ,mw,Jg];intro t ax;simpa using f.ok t ax
 have m:=bM Q af O ae N;clear Q af f A N ae y O
 gi_wp2_with fail
 have Q:=m.a _ rfl;revert Q;generalize ((W.setCell w (.slice P C M)).setCell (w+1:Nat) (.int .i64 0)).setCell (w+2:Nat) (.int .i64 0)=W';rintro⟨A,N,O,f,ae,y⟩;have key:∀{b:Nat}{t:TypeId}{v:Value},Boxed W' b t v->(W'.putObj D (.deferred none)).cell? b=some v:=fun{b t v} h=>iR h.C (eC _ D (.deferred none)) (fun r e=>by cases e;exact⟨_,y,rfl⟩);refine⟨by simp,.inl ⟨_,_,rfl,mj y,?_⟩⟩;refine⟨_,LJ rfl (fun _=>by kernel_rfl) (fun _=>by kernel_rfl) (fun _=>by kernel_rfl) _ _ w (w+1) (w+2) _ _ _ rfl rfl rfl (key A) (key N) (key O),?_⟩;refine⟨f.b (eC W' D _) f.size (fun k e=>by cases e;omega),_,_,_,rfl,.inr ⟨rfl,m.b,?_⟩⟩;rw[Jg,<-m.c];exact dJ ae fun b e ad=>dX (fun e2=>by
  subst e2;exact m.d (m.E _ e))
end
def IE:List (List UInt8):=[[116,101,115,116],[105,110,105,116],[116,104,114,101,97,100],[115,111,109,101],[110,111,110,101],[97,108,108],[97,99,113],[114,101,108],[115,119,97,112],[102,101,116,99,104],[99,97,115],[102,101,110,99,101],[108,111,97,100,115],[115,116,111,114,101,115],[115,107,105,112],[105,102],[116,114,117,101]]
def Af(x:ByteArray):Bool:=IE.any fun y=>x.toList==y
def acM{x}{l}(h:(x.toList==l)=true)(a:l∈IE):Af x=true:=List.any_eq_true.2 ⟨l,a,h⟩
def aa6(x)(w):Calls prog 150 #[.string x] w fun e c=>e=(Af x)/\c=w:=by
 have⟨R,a⟩:=eX (Af x);rw[<-a];have b:=H a;go_enter func150,ntmps150
 go_wp2_with fail
 all_goals first
  |(exfalso;simp_all;done)
  |(go_ret;exact⟨M (by rw[b.y];exact(acM (by assumption) (dr rfl)).s),rfl⟩)
  |(go_ret;exact⟨M (by rw[b.y];simp only[Af,IE,I1,List.any_nil];simp[*]),rfl⟩)
def pD(x:ByteArray):Nat->Nat
 |0=>0
 |k+1=>pD x k+if h:k<x.size then(if 1<=k/\df x[k]=4 then 1 else 0)else 0
def uw(x:ByteArray)(k:Nat):Bool:=(List.range k).all fun i=>if h:i<x.size then(i==0||oO x[i])else true
def wS(x:ByteArray):Bool:=if h:1<=x.size/\x.size<=16 then(df x[0]==3&&!Af x)&&(uw x x.size&&(!(x[0].toNat==114)||(decide (pD x x.size=0)||decide (pD x x.size<x.size-1))))else false
def WZ{x}{k}(hk)(a:1<=k):uw x (k+1)=(uw x k&&oO x[k]):=by
 unfold uw;rw[jh,Cn];simp only[J9,KN,AQ,js hk];rw[show(k==0)=false by simpa using(by omega:¬k=0),Bool.false_or]
def aek{x}{k}(hk)(a:1<=k)(h:oO x[k]=false):uw x x.size=false:=by
 unfold uw;rw[xd];exact⟨k,fS.2 hk,by rw[js hk,h,show(k==0)=false by simpa using(by omega:¬k=0)];decide⟩
def afj{x}{k}(hk)(a:1<=k):pD x (k+1)=pD x k+if df x[k]=4 then 1 else 0:=by
 rw[pD,js hk]
 grind
def Si(x):∀k,pD x k<=k
 |0=>av _
 |k+1=>by
  have:=Si x k;rw[pD]
  grind
def aby(x):pD x 1=0:=by rw[pD,pD];split<;>simp
def Zz(x):uw x 1=true:=by unfold uw;rw[show List.range 1=[0]from rfl];simp
def ZC(x:ByteArray)(w:World):Calls prog 89 #[.string x] w fun e J=>e=(wS x)/\J=w:=by
 have⟨R,a⟩:=eX (wS x);rw[<-a];unfold wS at a;by_cases s:x.size<1
 .rw[tL (by omega)]at a;have C:=H a;have L:(x.size:Int)<1:=by omega
  go_enter func89,ntmps89;go_wp2;go_ret;exact⟨M C.y.s,rfl⟩
 by_cases t:16<x.size
 .rw[tL (by omega)]at a;have C:=H a;have L:¬(x.size:Int)<1:=by omega
  have W:(16:Int)<x.size:=by omega
  clear a s t;go_enter func89,ntmps89;go_wp2;go_ret;exact⟨M C.y.s,rfl⟩
 have N:0<x.size:=by omega
 have P:1<=x.size/\x.size<=16:=⟨by omega,by omega⟩
 rw[js P]at a;have:¬(x.size:Int)<1:=by omega
 have:¬(16:Int)<x.size:=by omega
 have:(0:Int)<x.size:=by omega
 have c:=B9 x[0];have q:=aa6 x;have⟨z,h⟩:=eX (df x[0]);have⟨Q,E⟩:=eX (Af x);rw[<-h]at a c;rw[<-E]at a q;by_cases u:z=3
 .subst u;have m:=aA c q;clear c q h E;cases Q
  .have⟨y,b⟩:=eX (x[0].toNat);have n:=H a;clear a s t;go_enter func89,ntmps89
   go_wp2_with (first|(go_at_call 149;refine(m.a _).st fun w9 F=>?_;rw[F])|(go_at_call 150;refine(m.B _).st fun w9 F=>?_;rw[F]))
   clear b
   go_loopw [3,4] (fun d i wr=>∃k,1<=k/\k<=x.size/\i= .int .i64 k/\wr=w/\d= .int .i64 (pD x k:Nat)/\uw x k=true) (fun _ i _=>x.size-(intOf i).toNat)
   case atStart=>exact⟨1,av _,N,rfl,rfl,by rw[aby];rfl,Zz x⟩
   obtain⟨k,I,q,rfl,rfl,rfl,o⟩:=hrel;have T:=Si x k;have⟨v,j⟩:=eX (pD x k);rw[<-j]at T⊢;by_cases r:k<x.size
   .have g:=O7 x[k];have c:=B9 x[k];have l:=WZ r I;have f:=afj r I;rw[o,kQ]at l;rw[<-j]at f;cases p:oO x[k]with
    |false=>
     rw[p]at g;have b:=aA (aek r I p) g;clear g c l f p o j
     go_wp2_with (go_at_call 151;refine(b.B _).m ?_;rintro e w9 ⟨rfl,rfl⟩)
     go_ret;exact⟨M (by rw[n.y,b.a];rfl),rfl⟩
    |true=>
     rw[p]at g l;have⟨z,h⟩:=eX (df x[k]);rw[<-h]at c f;by_cases A:z=4
     .subst A;rw[aq rfl]at f;have b:=aY f g c l;clear g c l f p o j h
      go_wp2_with (first|(go_at_call 151;refine(b.b _).m ?_;rintro e w9 ⟨rfl,rfl⟩)|(go_at_call 149;refine(b.c _).m ?_;rintro e w9 ⟨rfl,rfl⟩))
      exact⟨⟨k+1,by omega,r,by go_num,trivial,by rw[b.a];go_num,b.D⟩,by simp[intOf];omega⟩
     rw[O A]at f;have:(z==4)=false:=by simpa using A
     have b:=aY f g c l;clear g c l f p o j h A
     go_wp2_with (first|(go_at_call 151;refine(b.b _).m ?_;rintro e w9 ⟨rfl,rfl⟩)|(go_at_call 149;refine(b.c _).m ?_;rintro e w9 ⟨rfl,rfl⟩))
     exact⟨⟨k+1,by omega,r,by go_num,trivial,by rw[b.a];rfl,b.D⟩,by simp[intOf];omega⟩
   have e:k=x.size:=by omega
   have a:=n.y;rw[<-e,o,<-j]at a;have:¬(k:Int)<x.size:=by omega
   have b:=aA a e;clear a j o e;by_cases f:x[0].toNat=114
   .have l:(x[0].toNat:Int)=114:=by omega
    by_cases g:v=0
    .subst g;go_wp2;go_ret;exact⟨M (by rw[b.a];simp),rfl⟩
    have:¬(v:Int)=0:=by omega
    by_cases j:v<k-1
    .have o:(v:Int)<(x.size:Int)-1:=by have:=b.B;omega
     go_wp2;go_ret;exact⟨M (by rw[b.a];simp[j]),rfl⟩
    have:¬(v:Int)<(x.size:Int)-1:=by have:=b.B;omega
    go_wp2;go_ret;exact⟨M (by rw[b.a];simp[j,g,f]),rfl⟩
   have:¬(x[0].toNat:Int)=114:=by omega
   go_wp2;go_ret;exact⟨M (by rw[b.a];simp[f]),rfl⟩
  have n:=H a;clear a s t;go_enter func89,ntmps89
  go_wp2_with (first|(go_at_call 149;refine(m.a _).m ?_;rintro e w9 ⟨rfl,rfl⟩)|(go_at_call 150;refine(m.B _).m ?_;rintro e w9 ⟨rfl,rfl⟩))
  go_ret;exact⟨M n.y.s,rfl⟩
 have:(z !=3)=true:=by simpa using u
 rw[show(z==3)=false by simpa using u]at a;have n:=H a;have m:=H c;clear a c q h E s t u;go_enter func89,ntmps89
 go_wp2_with (go_at_call 149;refine(m.y _).m ?_;rintro e w9 ⟨rfl,rfl⟩)
 go_ret;exact⟨M n.y.s,rfl⟩
inductive Ct where
 |mk (k t n v:UInt8) (kids:List Ct)
def Ci(t n v:UInt8):Bool:=t==0&&(n==0&&v==0)
def lk(C N:Nat):Nat->Ct->Bool
 |0,_=>false
 |d+1,.mk k t n v l=>
  if k=0 then Ci t n v&&decide (l.length=0)
  else if k=1 then decide (t.toNat<C)&&(decide (n<8)&&decide (l.length=0))
  else if k=2 then decide (n.toNat<N)&&(t==0&&decide (l.length=0))
  else if k=3\/k=4 then(Ci t n v&&decide (2<=l.length))&&l.all (lk C N d)
  else if k=5 then(Ci t n v&&decide (l.length=1))&&l.all (lk C N d)
  else false
def bytes_beq{x y:ByteArray}:(x==y)=true↔x=y:=by
 show(x.data==y.data)=true↔_;rw[fg,ByteArray.ext_iff]
def toList_eq(x:ByteArray):x.toList=x.data.toList:=by
 have key:∀n i r,x.size-i=n->ByteArray.toList.loop x i r=r.reverse++x.data.toList.drop i:=by
  intro n
  induction n with
  |zero=>
   intro i r h;rw[ByteArray.toList.loop,O (by omega),Mw (by show x.data.size<=i;have:x.size=x.data.size:=rfl;omega),kL]
  |succ n a=>
   intro i r h;have b:i<x.data.toList:=by have:x.size=x.data.toList:=rfl;omega
   rw[ByteArray.toList.loop,aq (by omega),a _ _ (by omega),zD b];have:x.get! i=x.data.toList[i]:=by
    show x.data[i]! =_
    grind
   grind
 have:=key _ 0 [] rfl;simpa[ByteArray.toList]using this
def Hh{x y:ByteArray}:(x.toList==y.toList)=true↔x=y:=by
 rw[fg,toList_eq,toList_eq];exact⟨fun e=>ByteArray.ext (Array.toList_inj.1 e),fun e=>by rw[e]⟩
instance:LawfulBEq ByteArray where
 eq_of_beq h:=bytes_beq.1 h
 rfl:=bytes_beq.2 rfl
def yQ(a:List ByteArray)(x:ByteArray):Bool:=decide (x∈a)
def wY(a:List ByteArray)(k:Nat):Bool:=(List.range k).all fun i=>wS (a.getD i .empty)&&!yQ (a.take i) (a.getD i .empty)
def kR(a:List ByteArray)(m:Nat):Bool:=decide (1<=a.length)&&(decide (a.length<=6)&&(decide (m=a.length)&&wY a a.length))
structure ml where
 name:ByteArray
 names:List ByteArray
 init:List UInt8
 h:List (List Ins)
 ask:UInt8
 cond:Ct
def ml.prog(s:ml):a8:=⟨s.names.length,s.init,s.h⟩
def nZ(l:List (List Ins)):Bool:=decide (1<=l.length)&&(decide (l.length<=4)&&l.all fun ins=>decide (ins.length<=12))
def vX(a:UInt8):Bool:=a==1||(a==2||a==3)
def kY(s:ml):List (Int×Bool):=[(70,pT s.name),(71,kR s.names s.init.length),(72,nZ s.h),(73,s.h.all fun ins=>iv ins s.names.length),(75,vX s.ask),(74,lk s.h.length s.names.length 20 s.cond)]
def yi:List (Int×Bool)->Int
 |[]=>0
 |(e,b)::l=>if b then yi l else e
def rz(s:ml):Int:=yi (kY s)
def aaC{ls}{k}{x:ByteArray}(a:ls[k]? =x):wY ls (k+1)=(wY ls k&&(wS x&&!yQ (ls.take k) x)):=by
 unfold wY
 grind
def Zk{ls}{k n}{x:ByteArray}(a:ls[k]? =x)(b:k<n)(h:(wS x&&!yQ (ls.take k) x)=false):wY ls n=false:=by
 unfold wY
 grind
def Mp:∀{l:List (Int×Bool)},(∀x∈l,x.1≠0)->yi l=0->∀x∈l,x.2=true
 |[],_,_=>fun x a=>by cases a
 |(e,b)::l,h,c=>by
  cases b with
  |false=>exact absurd c (h (e,false) rX)
  |true=>
   intro x a;obtain rfl|a:=fI.1 a
   .rfl
   exact Mp (fun y f=>h y (kU _ f)) c x a
def wL:∀(l:List (Int×Bool))(m)(e),(∀(j:Nat)(x:Int×Bool),j<m->l[j]? =x->x.2=true)->l[m]? =(e,false)->yi l=e
 |[],_,_,_,h=>by cases h
 |(a,b)::l,0,e,_,h=>by
  have:=aR h;cases this;rfl
 |(a,b)::l,m+1,e,c,f=>by
  have g:=c 0 (a,b) (Nat.succ_pos _) rfl;subst g;exact wL l m e (fun j x i n=>c (j+1) x (I3 i) n) f
def PG:∀(l:List (Int×Bool)),(∀(j:Nat)(x:Int×Bool),l[j]? =x->x.2=true)->yi l=0
 |[],_=>rfl
 |(a,b)::l,h=>by
  have c:=h 0 (a,b) rfl;subst c;exact PG l fun j x e=>h (j+1) x e
def yN{s}(h:rz s=0):Gs s.prog:=by
 have key:=Mp (l:=kY s) (by intro x a;unfold kY at a;simp only[fI,List.mem_nil_iff,Cr]at a;obtain rfl|rfl|rfl|rfl|rfl|rfl:=a<;>simp) h;have a:=key (71,kR s.names s.init) (by unfold kY;simp);have b:=key (72,nZ s.h) (by unfold kY;simp);unfold kR at a;unfold nZ at b;simp only[cH,lD]at a b;exact⟨a.1,a.2.1,a.2.2.1,b.1,b.2.1,fun ins c=>mw.1 (key (73,s.h.all fun ins=>iv ins s.names) (by unfold kY;simp)) ins c⟩
def sP:Nat->World->(Nat->Value)->Ct->Prop
 |0,_,_,_=>True
 |d+1,W,g,.mk k t n v l=>(g 0= .int .u8 (Y k)/\g 1= .int .u8 (Y t)/\g 2= .int .u8 (Y n)/\g 3= .int .u8 (Y v))/\∃K c,g 4= .slice K l.length c/\l.length<=maxLen/\
  (0<l.length->∃b a,K=some ⟨b,a,none⟩/\b<W.1.size/\∀i x,l[i]? =some x->∃e,(∀j,j<5->W.cell? ⟨b,a+i*5+j,none⟩=some (e j))/\sP d W e x)
def sP.Z:∀{d:Nat}{W W'}{g}{x},sP d W g x->Below W W W'->sP d W' g x
 |0,_,_,_,_,_,_=>trivial
 |d+1,W,W',g,.mk k t n v l,⟨r,K,c,u,w,y⟩,f=>by
  refine⟨r,K,c,u,w,fun A=>?_⟩;have⟨b,h,e,o,C⟩:=y A;refine⟨b,h,e,aW o f.size,fun i x E=>?_⟩;have⟨F,H,I⟩:=C i x E;exact⟨F,fun j J=>(f.C (p:=⟨b,h+i*5+j,none⟩) o).t (H j J),I.Z f⟩
def vp(W:World)(A:Option Addr)(a:List ByteArray):Prop:=
 0<a.length->∃b c,A=some ⟨b,c,none⟩/\b<W.1.size/\∀i x,a[i]? =some x->W.cell? ⟨b,c+i,none⟩=some (.string x)
def vp.Z{W W'}{A}{ls}(h:vp W A ls)(f:Below W W W'):vp W' A ls:=fun r=>by
 have⟨b,g,e,o,u⟩:=h r;exact⟨b,g,e,aW o f.size,fun i x w=>(f.C (p:=⟨b,g+i,none⟩) o).t (u i x w)⟩
structure mM(W:World)(g:Nat->Value)(s:ml):Prop where
 name:g 0= .string s.name
 names:∃L c,g 1= .slice L s.names.length c/\s.names.length<=c/\vp W L s.names
 prog:eE W g s.prog
 ask:g 4= .int .u8 (Y s.ask)
 cond:sP 20 W (fun j=>g (5+j)) s.cond
 many:s.h.length<=maxLen
def mM.Z{W W'}{g}{s}(h:mM W g s)(f:Below W W W'):mM W' g s:=by
 have⟨L,c,i,o,r⟩:=h.names;exact⟨h.name,⟨L,c,i,o,r.Z f⟩,h.prog.Z f (av _),h.ask,h.cond.Z f,h.many⟩
def Xi(A)(c)(ls)(x)(w)(s:ls.length<=1000000)(a:vp w A ls):
 Calls prog 152 #[.slice A ls c,.string x] w fun e n=>(∃r:Int,e=(Value.int .i64 r)/\decide (0<=r)=yQ ls x)/\n=w:=by
 have o:=H a;clear a;go_enter func152,ntmps152;go_wp2
 go_loopw [8] (fun i wr=>∃k:Nat,k<=ls/\i= .int .i64 k/\wr=w/\∀j y,j<k->ls[j]? =y->y≠x) (fun i _=>ls-(intOf i).toNat)
 case atStart=>exact⟨0,aQ _,rfl,rfl,fun j y h=>absurd h (jD _)⟩
 obtain⟨k,t,rfl,rfl,f⟩:=hrel;by_cases p:k<ls
 .obtain⟨b,v,rfl,z,l⟩:=o.y (by omega);have g:=aI p;have q:=l k _ g;have:(k:Int)<ls:=by omega
  have⟨y,m⟩:=eX (ls[k]);rw[<-m]at g q;have a:=aA g f;clear l g f m;by_cases g:x=y
  .subst g;have C:(x.toList==x.toList)=true:=Hh.2 rfl;go_wp2;go_ret;refine⟨⟨k,rfl,?_⟩,rfl⟩;rw[fB (by omega)];exact(fB (cB a.a)).s
  have:(x==y)=false:=by simp[g]
  have m:=H g;clear g;go_wp2
  .exact absurd (Hh.1 ‹(x.toList==y.toList)=true›) m.y
  exact⟨⟨k+1,by omega,by go_num,trivial,fun j u g l=>by
   by_cases e:j=k
   .subst e;rw[a.a]at l
    grind
   .exact a.B j u (by omega) l⟩,by simp[intOf];omega⟩
 have l:k=ls:=by omega
 subst l;have a:=H f;clear f;go_wp2;go_ret;refine⟨⟨-1,rfl,?_⟩,rfl⟩;rw[gX (by omega)];symm;rw[xu];intro h;have⟨j,g,e⟩:=iD (mf h);exact a.y j _ g (by grind) rfl
def Zb(A)(c)(ls)(x)(w)(b:ls.length<=1000000)(f:vp w A ls):
 Calls prog 90 #[.slice A ls c,.string x] w (Rs (yQ ls x) w):=by
 go_enter func90,ntmps90
 go_wp2_with (go_at_call 152;refine(Xi A c ls x w b (H f).y).m ?_;rintro e w9 ⟨⟨r,rfl,a⟩,rfl⟩;have g:=H a;clear a)
 go_ret;exact⟨M g.y,aP _ _⟩
def YQ(q:Nat)(g:Nat->Value)(L I:Option Addr)(c X m:Nat)(f:List ByteArray)(w:World)(r:aj w q 29 10 g)(o:g 1= .slice L f c)(s:g 2= .slice I m X)(aa:f<=c)(t:vp w L f):
 Calls prog 42 #[.pointer q] w (Rs (kR f m) w):=by
 have a:=(r.C 1 (dr rfl)).t (cs o);have ab:=(r.C 2 (dr rfl)).t (cs s);have d1:=fun d C=>bO a d C;have d2:=fun d C=>bO ab d C;have⟨R,j⟩:=eX (kR f m);rw[<-j];unfold kR at j;have⟨n,l⟩:=eX f.length;rw[<-l]at j a d1 aa;have h:=aY j t l r.lt;clear j t l o s;have P:=r.lt;go_enter func42,ntmps42
 go_upto_region 1 with fail
 by_cases n<1
 .have t:(n:Int)<1:=by omega
  refine bV (by kernel_rfl) ?_
  repeat(first|go_big_quiet_step (fail)|quiet_step (fail))
  refine qh fun W l=>?_;go_wp2;go_ret;exact⟨M (by rw[h.a,gX (by omega)];rfl),l.y⟩
 have t:¬(n:Int)<1:=by omega
 by_cases 6<n
 .have u:(6:Int)<n:=by omega
  refine bV (by kernel_rfl) ?_
  repeat(first|go_big_quiet_step (fail)|quiet_step (fail))
  refine qh fun W l=>?_;go_wp2;go_ret;exact⟨M (by rw[h.a,gX (show¬n<=6 by omega)];simp),l.y⟩
 have u:¬(6:Int)<n:=by omega
 by_cases Q:m=n
 .have z:((m:Int) !=n)=false:=by simp;omega
  refine bV (by kernel_rfl) ?_
  repeat(first|go_big_quiet_step (fail)|quiet_step (fail))
  refine qn fun W o=>?_;have l:=H o;have A:=(o.C (p:=⟨q,1,none⟩) P).t a;have j:=a;have C1:=H j;clear d1 d2 o a j;go_wp2
  go_loopw [37] (fun i wr=>∃k,k<=n/\i= .int .i64 k/\Below w w wr/\wY f k=true) (fun i _=>n-(intOf i).toNat)
  case atStart=>exact⟨0,aQ _,rfl,l.y,rfl⟩
  obtain⟨k,ad,rfl,j,s⟩:=hrel;clear A t u z;by_cases T:k<n
  .obtain⟨b,t,rfl,o,E⟩:=h.b (by rw[<-h.c];omega);obtain⟨x,u⟩:∃x,f[k]? =some x:=⟨_,aI (by rw[<-h.c];exact T)⟩
   have:=(j.C (p:=⟨b,t+k,none⟩) o).t (E k x u);have:=(j.C (p:=⟨q,1,none⟩) P).t C1.y;have F:=ZC x wr;have z:=Zb (some ⟨b,t,none⟩) c (f.take k) x wr (by rw[qx];omega) (fun A=>⟨b,t,rfl,aW o j.size,fun i y a=>(j.C (p:=⟨b,t+i,none⟩) o).t (E i y (by rw[Iy]at a;split at a<;>first|exact a|cases a))⟩);rw[qx,xy (by rw[<-h.c];omega)]at z;have⟨B,J⟩:=eX (yQ (f.take k) x);have⟨v,N⟩:=eX (wS x);rw[<-J]at z;rw[<-N]at F;have:(k:Int)<n:=by omega
   have:(k:Int)<=c:=by omega
   have:¬(k:Int)<0:=by omega
   have O:=Zk (n:=n) u T;have A:=aaC u;rw[<-J,<-N]at O A;rw[s,kQ]at A;have a:=bM F z j O A;clear F z j O A J N u E s;cases v
   .go_wp2_with (go_at_call 89;refine a.a.m ?_;rintro e u ⟨rfl,rfl⟩)
    go_ret;exact⟨M (by rw[h.a,a.d rfl];simp),a.c⟩
   cases B
   .go_wp2_with (first|(go_at_call 89;refine a.a.m ?_;rintro e u ⟨rfl,rfl⟩)|(go_at_call 90;refine a.b.st fun u z=>?_))
    exact⟨⟨k+1,by omega,by go_num,a.c.t (z.m a.c.size),a.E⟩,by simp[intOf];omega⟩
   go_wp2_with (first|(go_at_call 89;refine a.a.m ?_;rintro e u ⟨rfl,rfl⟩)|(go_at_call 90;refine a.b.st fun u z=>?_))
   go_ret;exact⟨M (by rw[h.a,a.d rfl];simp),a.c.t (z.m a.c.size)⟩
  obtain rfl:k=n:=by omega
  have a:=aA j s;clear j s;go_wp2;go_ret;exact⟨M (by rw[h.a,a.B,Q,fB (by omega),fB (by omega)];simp),a.a⟩
 have:((m:Int) !=n)=true:=by simp;omega
 refine bV (by kernel_rfl) ?_
 repeat(first|go_big_quiet_step (fail)|quiet_step (fail))
 refine qh fun W l=>?_;clear d1 d2;go_wp2;go_ret;exact⟨M (by rw[h.a,gX Q];simp),l.y⟩
def lJ(x:Ins)(l a:Nat):Nat->Value
 |10=> .int .i64 l
 |11=> .int .i64 a
 |i=>(aV x)[i]!
def abb(a b):bits .and .u8 (Y a) (Y b)=Y (a&&&b):=by
 show IntKind.u8.wrap ((BitVec.ofInt 8 (Y a)&&&BitVec.ofInt 8 (Y b)).toNat:Int)=_;have e:∀v,BitVec.ofInt 8 (Y v)=v.toBitVec:=fun v=>by unfold Y;rw[TD];apply sA;simp
 rw[e,e];unfold Y;have h:(a.toBitVec&&&b.toBitVec).toNat=(a&&&b).toNat:=rfl;have c:=(a&&&b).toNat_lt;rw[h];generalize (a&&&b).toNat=k at c;simp[IntKind.wrap,IntKind.bits,IntKind.signed];omega
def agh(k)(h:k<9):((([0,35,38,29,7,7,15,32,92]:List Nat).getD k 0:Nat):Int)=Y (om.getD k 0):=by
 have:∀k,k<9->(([0,35,38,29,7,7,15,32,92]:List Nat).getD k 0)=(om.getD k 0).toNat:=by decide
 unfold Y
 grind
structure rC(w:World)(cb sb:Nat)(x:Ins)(l a:Nat):Prop where
 box:Boxed w cb 266 (.pointer sb)
 r:aj w sb 183 12 (lJ x l a)
def RE(b)(x)(l a)(f){z}(w)(q:z=Y f)(h:aj w b 183 12 (lJ x l a))(s:x.op.toNat<=8)(i:bh w):
 Calls prog 158 #[.pointer (b:Nat),.int .u8 z] w fun e t=>e= .returned (.bool (fX x f))/\t=w:=by
 subst q;have u:w.cell? (b:Nat)=some (.int .u8 (Y x.op)):=h.C 0 (dr rfl);have⟨k,g⟩:=eX x.op.toNat;rw[show Y x.op=(k:Int) by rw[g];rfl]at u;rw[<-g]at s;have j:=i.FA k (by omega);rw[agh k (by omega)]at j;have:(k:Int)<9:=by omega
 have:¬(k:Int)<0:=by omega
 have m:=abb (om.getD k 0) f;have c:fX x f=!(om.getD k 0&&&f==0):=by unfold fX;rw[<-g]
 have⟨v,o⟩:=eX (om.getD k 0&&&f);rw[<-o]at c m;rw[c];have⟨n,p⟩:=eX (om.getD k 0);rw[<-p]at j m;have y:(Y v !=0)=!(v==0):=by rw[show(0:Int)=Y 0 from rfl,uq];rfl
 have⟨r,c⟩:=eX (!(v==0));rw[<-c]at y⊢;have:=h.lt;clear i g o p c h;go_enter func158,ntmps158;go_wp2;go_ret;exact⟨rfl,rfl⟩
def Pw(a)(w):Calls prog 160 #[.agg #[a.cY,a.n]] w (Rs (oJ a) w):=by
 obtain⟨r,n⟩:=a;have b:∀v,Below w w (w.alloc v):=fun v=>ba w _;have q:decide (Y n<8)=decide (n<8):=Ba n 8;have⟨z,c⟩:=eX (Y n);have e:oJ ⟨r,n⟩=(!r||decide (z<8)):=by unfold oJ;rw[c,q]
 show Calls _ _ #[.agg #[r,n]] _ _;rw[e,<-c];clear e c q;go_enter func160,ntmps160;cases r
 .go_wp2;go_ret;exact⟨rfl,b _⟩
 by_cases z<8
 .go_wp2;go_ret;exact⟨M (by simp[*]),b _⟩
 go_wp2;go_ret;exact⟨M (by simp[*]),b _⟩
def II(a b):decide (Y a<=Y b)=decide (a<=b):=by
 rw[kG,jF,jF,Uw];unfold Y;omega
def tq{W}{b}{x}{l a}(h:aj W b 183 12 (lJ x l a)):W.cell? (b:Nat)=some (.int .u8 (Y x.op))/\W.cell? ⟨b,1,none⟩=some (.int .u8 (Y x.dst))/\W.cell? ⟨b,2,none⟩=some (.int .u8 (Y x.loc))/\
 W.cell? ⟨b,3,none⟩=some (.bool x.a.cY)/\W.cell? ⟨b,4,none⟩=some (.int .u8 (Y x.a.n))/\W.cell? ⟨b,5,none⟩=some (.bool x.b.cY)/\W.cell? ⟨b,6,none⟩=some (.int .u8 (Y x.b.n))/\W.cell? ⟨b,7,none⟩=some (.int .u8 (Y x.fn))/\
 W.cell? ⟨b,8,none⟩=some (.int .u8 (Y x.mode))/\W.cell? ⟨b,9,none⟩=some (.int .u8 (Y x.skip))/\W.cell? ⟨b,10,none⟩=some (.int .i64 l)/\W.cell? ⟨b,11,none⟩=some (.int .i64 a):=
 ⟨h.C 0 (dr rfl),h.C 1 (dr rfl),h.C 2 (dr rfl),h.C 3 (dr rfl),h.C 4 (dr rfl),h.C 5 (dr rfl),h.C 6 (dr rfl),h.C 7 (dr rfl),h.C 8 (dr rfl),h.C 9 (dr rfl),h.C 10 (dr rfl),h.C 11 (dr rfl)⟩
def rC.Z{w w'}{cb sb}{x}{l a}(h:rC w cb sb x l a)(f:Below w w w'):rC w' cb sb x l a:=⟨(f.block _ h.box.lt).t h.box,h.r.Z f h.r.lt⟩
def Z4(b:Nat)(x:Ins)(l a:Nat)(w:World)(h:aj w b 183 12 (lJ x l a)):Calls prog 161 #[.pointer b] w (Rs (vP x) w):=by
 have⟨j,_,_,_,_,_,_,_,n,_⟩:=tq h;have q:∀k,(Y x.op==Y k)=(x.op==k):=fun k=>kf _ _;have c:vP x=(if Y x.op=1 then Y x.mode==0||Y x.mode==1 else if Y x.op=2 then Y x.mode==0||Y x.mode==2 else if Y x.op=7 then Y x.mode==3||Y x.mode==4||Y x.mode==5 else true):=by
  have e:∀(v k:UInt8),(v==k)=(Y v==Y k):=fun v k=>(kf v k).s;have e2:∀k,(x.op=k)=(Y x.op=Y k):=fun k=>propext lQ.s;unfold vP;simp only[e2,e];rfl
 rw[c];clear c q;have⟨z,f⟩:=eX (Y x.op);have⟨m,g⟩:=eX (Y x.mode);rw[<-f]at j⊢;rw[<-g]at n⊢;have⟨R,c⟩:=eX (if z=1 then m==0||m==1 else if z=2 then m==0||m==2 else if z=7 then m==3||m==4||m==5 else true);rw[<-c];have i:=H c;clear f g h c;go_enter func161,ntmps161
 go_wp2_with fail
 all_goals
  go_ret;exact⟨M (by rw[i.y];clear i;simp_all),aP _ _⟩
def Z9(b:Nat)(x:Ins)(l a:Nat)(w:World)(h:aj w b 183 12 (lJ x l a)):Calls prog 162 #[.pointer b] w (Rs (uQ x) w):=by
 have⟨g,_,_,_,_,_,_,i,_⟩:=tq h;have c:uQ x=(if Y x.op=3 then Y x.fn==1||Y x.fn==2||Y x.fn==3 else if Y x.op=8 then Y x.fn==4||Y x.fn==5||Y x.fn==6 else true):=by
  have e:∀(v k:UInt8),(v==k)=(Y v==Y k):=fun v k=>(kf v k).s;have e2:∀k,(x.op=k)=(Y x.op=Y k):=fun k=>propext lQ.s;unfold uQ;simp only[e2,e];rfl
 rw[c];clear c;have⟨z,j⟩:=eX (Y x.op);have⟨m,n⟩:=eX (Y x.fn);rw[<-j]at g⊢;rw[<-n]at i⊢;have⟨R,c⟩:=eX (if z=3 then m==1||m==2||m==3 else if z=8 then m==4||m==5||m==6 else true);rw[<-c];have f:=H c;go_enter func162,ntmps162
 go_wp2_with fail
 all_goals
  go_ret;exact⟨M (by rw[f.y];clear f;simp_all),aP _ _⟩
def aci(cb sb)(x)(l a)(w)(h:rC w cb sb x l a):Calls prog 153 #[.pointer cb] w (Rs (decide (1<=x.op)&&decide (x.op<=8)) w):=by
 have:=h.box.C;have⟨c,_⟩:=tq h.r;rw[<-II,<-II];have⟨z,b⟩:=eX (Y x.op);rw[<-b]at c⊢;rw[show Y 1=1 from rfl,show Y 8=8 from rfl];clear h b;go_enter func153,ntmps153;by_cases q:1<=z
 .go_wp2;go_ret;exact⟨M (by simp[q]),aP _ _⟩
 go_wp2;go_ret;exact⟨M (by rw[gX (show¬1<=z by omega)];rfl),aP _ _⟩
def afb(cb sb)(x)(l a)(w)(h:rC w cb sb x l a):Calls prog 156 #[.pointer cb] w (Rs (decide (x.dst<8)) w):=by
 have:=h.box.C;have⟨_,c,_⟩:=tq h.r;rw[<-Ba,show Y 8=8 from rfl];have⟨z,b⟩:=eX (Y x.dst);clear h b;go_enter func156,ntmps156;go_wp2;go_ret;exact⟨rfl,aP _ _⟩
def adG(cb sb)(x)(l a)(w)(h:rC w cb sb x l a):Calls prog 159 #[.pointer cb] w (Rs (oJ x.a&&oJ x.b) w):=by
 have:=h.box.C;have⟨_,_,_,j,m,_⟩:=tq h.r;have⟨v,f⟩:=eX (oJ x.a);have b:=Pw x.a w;rw[<-f]at b⊢;have c:=aA h b;clear h b f;go_enter func159,ntmps159;cases v
 .go_wp2_with (go_at_call 160;refine c.B.st fun g b=>?_)
  go_ret;exact⟨rfl,b⟩
 go_wp2_with (go_at_call 160;first|((with_reducible refine c.B.m ?_);rintro e g ⟨rfl,b⟩;have f:=c.a.Z b;have:=f.box.C;have⟨_,_,_,_,_,n,o,_⟩:=tq f.r;clear f)|(refine(Pw x.b _).st fun p i=>?_))
 go_ret;exact⟨rfl,b.t (i.m b.size)⟩
def ZM(b)(x)(l a)(f){z}(w)(c:z=Y f)(h:aj w b 183 12 (lJ x l a))(g:x.op.toNat<=8)(i:bh w)(v)(j:fX x f=v):
 Calls prog 158 #[.pointer (b:Nat),.int .u8 z] w (Rs (.bool v) w):=
 (RE b x l a f w c h g i).m fun e o ⟨m,n⟩=>⟨by rw[m,j],by rw[n];exact aP _ _⟩
def Qe(w):(zeroValue 36).run prog w= .ok (.agg #[.int .u8 0,.int .u8 0,.int .u8 0,.bool false,.int .u8 0,.bool false,.int .u8 0,.int .u8 0,.int .u8 0,.int .u8 0]) w:=by kernel_rfl
def Ya(b:Nat)(x:Ins)(l a:Nat)(w:World)(h:aj w b 183 12 (lJ x l a))(r:1<=x.op.toNat)(g:x.op.toNat<=8)(p:bh w):
 Calls prog 155 #[.pointer b] w (Rs (.agg (aV (sB x))) w):=by
 have⟨A,q⟩:=eX (sB x);rw[<-q];have j:∀(f:UInt8)(z:Int),z=Y f->∀v,fX x f=v->∀n o,Calls prog 158 #[.pointer b,.int .u8 z] ((w.alloc n).alloc o) fun e u=>e= .returned (.bool v)/\u=(w.alloc n).alloc o:=fun f z C v E n o=>by
  have y:Below w w ((w.alloc n).alloc o):=(ba w _).alloc (by simp) _;exact(RE b x l a f _ C (h.Z y h.lt) g (p.Z y p.lt)).m fun e u ⟨e1,e2⟩=>⟨by rw[e1,E],e2⟩
 have:=Qe;have:=h.lt;have c:∀k,x.op.toNat=k->∀f:UInt8,fX x f=!(om.getD k 0&&&f==0):=fun k m f=>by unfold fX;rw[m]
 have⟨k,m⟩:=eX x.op.toNat;have c:=c k m.s;rw[<-m]at r g;have F:=H q;have⟨R,T,W,X,aa,ab,ad,ae,af,ag,_⟩:=tq h;clear q h p;have I:k=1\/k=2\/k=3\/k=4\/k=5\/k=6\/k=7\/k=8:=by omega
 clear r g;obtain⟨J,e1⟩:∃v,v=!(om.getD k 0&&&(1:UInt8)==0):=⟨_,rfl⟩
 obtain⟨L,e2⟩:∃v,v=!(om.getD k 0&&&(2:UInt8)==0):=⟨_,rfl⟩
 obtain⟨M,p⟩:∃v,v=!(om.getD k 0&&&(4:UInt8)==0):=⟨_,rfl⟩
 obtain⟨N,q⟩:∃v,v=!(om.getD k 0&&&(8:UInt8)==0):=⟨_,rfl⟩
 obtain⟨O,r⟩:∃v,v=!(om.getD k 0&&&(16:UInt8)==0):=⟨_,rfl⟩
 obtain⟨P,s⟩:∃v,v=!(om.getD k 0&&&(32:UInt8)==0):=⟨_,rfl⟩
 obtain⟨Q,t⟩:∃v,v=!(om.getD k 0&&&(64:UInt8)==0):=⟨_,rfl⟩
 have g:=jR (And.intro ((c 1).t e1.s) (j 1 1 rfl _ ((c 1).t e1.s))) (And.intro ((c 2).t e2.s) (j 2 2 rfl _ ((c 2).t e2.s))) (And.intro ((c 4).t p.s) (j 4 4 rfl _ ((c 4).t p.s))) (And.intro ((c 8).t q.s) (j 8 8 rfl _ ((c 8).t q.s))) (And.intro ((c 16).t r.s) (j 16 16 rfl _ ((c 16).t r.s))) (And.intro ((c 32).t s.s) (j 32 32 rfl _ ((c 32).t s.s))) ((c 64).t t.s) (j 64 64 rfl _ ((c 64).t t.s));clear c j;obtain rfl|rfl|rfl|rfl|rfl|rfl|rfl|rfl:=I
 all_goals
  cases J<;>try(exact absurd e1 (by decide+kernel))
  cases L<;>try(exact absurd e2 (by decide+kernel))
  cases M<;>try(exact absurd p (by decide+kernel))
  cases N<;>try(exact absurd q (by decide+kernel))
  cases O<;>try(exact absurd r (by decide+kernel))
  cases P<;>try(exact absurd s (by decide+kernel))
  cases Q<;>try(exact absurd t (by decide+kernel))
  clear e1 e2 p q r s t m;go_enter func155,ntmps155
  go_wp2_with (go_at_call 158;first|((with_reducible refine(g.a.2 _ _).m ?_);rintro e w9 ⟨rfl,rfl⟩)|((with_reducible refine(g.b.2 _ _).m ?_);rintro e w9 ⟨rfl,rfl⟩)|((with_reducible refine(g.c.2 _ _).m ?_);rintro e w9 ⟨rfl,rfl⟩)|((with_reducible refine(g.d.2 _ _).m ?_);rintro e w9 ⟨rfl,rfl⟩)|((with_reducible refine(g.e.2 _ _).m ?_);rintro e w9 ⟨rfl,rfl⟩)|((with_reducible refine(g.f.2 _ _).m ?_);rintro e w9 ⟨rfl,rfl⟩)|((with_reducible refine(g.H _ _).m ?_);rintro e w9 ⟨rfl,rfl⟩))
  refine bK (mT rfl _ ((aj.dq w 36 10 (fun i=>(aV A)[i]!) _ ?_).alloc _) _ rfl mr rfl kz) rfl ⟨by rw[yO],(ba w _).alloc (by simp) _⟩;rw[yO,F.y];unfold sB;simp only[g.a.1,g.b.1,g.c.1,g.d.1,g.e.1,g.f.1,g.g,yk,I2,if_false];rfl
section
attribute [local irreducible] Code.wp wpList Oper.wp wpQuiet
def QP{w}{b}{x}{l a}(h:aj w b 183 12 (lJ x l a))(i:x.op.toNat<=8)(g:bh w)(f){z}(j:z=Y f){v}(m:fX x f=v):
 ∀d c,Calls prog 158 #[.pointer (b:Nat),.int .u8 z] (Go.Sort.grow (redrawn w d) c) fun e n=>e= .returned (.bool v)/\Below (Go.Sort.grow (redrawn w d) c) (Go.Sort.grow (redrawn w d) c) n:=
 fun d c=>ZM b x l a f _ j (h.Z (jO w d c) h.lt) i (g.Z (jO w d c) g.lt) v m
def adO(g sb)(x)(l a)(w)(h:rC w g sb x l a)(i:x.op.toNat<=8)(j:bh w):Calls prog 157 #[.pointer (g:Nat)] w (Rs (.bool (!fX x 2||decide (x.loc.toNat<l))) w):=by
 have⟨_,_,e,_,_,_,_,_,_,_,m,_⟩:=tq h.r;have⟨v,f⟩:=eX (fX x 2);have n:=QP h.r i j 2 (z:=2) rfl f.s;rw[<-f];have⟨z,b⟩:=eX (Y x.loc);have o:decide (x.loc.toNat<l)=decide (z<(l:Int)):=by rw[kG,jF,jF,b];unfold Y;omega
 rw[<-b]at e;rw[o];have:0<=z:=by rw[b];exact iW _
 have:z<256:=by rw[b];exact pC _
 have:IntKind.i64.wrap z=z:=gw _ (by omega);have r:=fun d c=>bO h.box.C d c;have d2:=fun d c=>bO e d c;have d10:=fun d c=>bO m d c;have⟨L,p⟩:=eX (l:Int);rw[<-p]at d10⊢;have q:=H n;clear h j n f b o e m p i;go_enter func157,ntmps157
 go_upto_region 1 with fail
 cases v
 .refine bV (by kernel_rfl) ?_
  repeat(first|go_big_quiet_step (first|(go_at_call 158;with_reducible exact aX (q.y _ _)))|quiet_step (fail))
  refine qh fun W b=>?_;clear r d2 d10;go_wp2;go_ret;exact⟨rfl,b.y⟩
 refine bV (by kernel_rfl) ?_
 repeat(first|go_big_quiet_step (first|(go_at_call 158;with_reducible exact aX (q.y _ _)))|quiet_step (fail))
 refine qn fun W e=>?_;go_wp2;go_ret;exact⟨rfl,(H e).y⟩
def afB(j u:Nat)(x:Ins)(l a:Nat)(w:World)(h:rC w j u x l a)(m:x.op.toNat<=8)(n:bh w):Calls prog 163 #[.pointer j] w (Rs (.bool (!fX x 64||(decide (1<=x.skip)&&decide (x.skip.toNat<=a)))) w):=by
 have⟨_,_,_,_,_,_,_,_,_,e,_,o⟩:=tq h.r;have⟨v,f⟩:=eX (fX x 64);have p:=QP h.r m n 64 (z:=64) rfl f.s;rw[<-f];have⟨z,b⟩:=eX (Y x.skip);have r:decide (x.skip.toNat<=a)=decide (z<=(a:Int)):=by rw[kG,jF,jF,b];unfold Y;omega
 have s:decide (1<=x.skip)=decide (1<=z):=by rw[b];exact(II 1 x.skip).s
 rw[<-b]at e;rw[r,s];have:0<=z:=by rw[b];exact iW _
 have:z<256:=by rw[b];exact pC _
 have:IntKind.i64.wrap z=z:=gw _ (by omega);have g:=fun d c=>bO h.box.C d c;have d9:=fun d c=>bO e d c;have d11:=fun d c=>bO o d c;have⟨L,t⟩:=eX (a:Int);rw[<-t]at d11⊢;have i:=H p;clear h n p f b r s e o t m;go_enter func163,ntmps163
 go_upto_region 1 with fail
 cases v
 .refine bV (by kernel_rfl) ?_
  repeat(first|go_big_quiet_step (first|(go_at_call 158;with_reducible exact aX (i.y _ _)))|quiet_step (fail))
  refine qh fun W b=>?_;clear g d9 d11;go_wp2;go_ret;exact⟨rfl,b.y⟩
 by_cases q:1<=z
 .refine bV (by kernel_rfl) ?_
  repeat(first|go_big_quiet_step (first|(go_at_call 158;with_reducible exact aX (i.y _ _)))|quiet_step (fail))
  refine qh fun W b=>?_;clear g d9 d11;go_wp2;go_ret;exact⟨M (by simp[q]),b.y⟩
 refine bV (by kernel_rfl) ?_
 repeat(first|go_big_quiet_step (first|(go_at_call 158;with_reducible exact aX (i.y _ _)))|quiet_step (fail))
 refine qh fun W b=>?_;clear g d9 d11;go_wp2;go_ret;exact⟨M (by rw[gX (show¬1<=z by omega)];rfl),b.y⟩
def Ik:List (Option IntKind):=[some .u8,some .u8,some .u8,none,some .u8,none,some .u8,some .u8,some .u8,some .u8]
def Uu(x):Fl.dU Ik (aV x).toList=some [.int .u8 (Y x.op),.int .u8 (Y x.dst),.int .u8 (Y x.loc),.bool x.a.cY,.int .u8 (Y x.a.n),.bool x.b.cY,.int .u8 (Y x.b.n),.int .u8 (Y x.fn),.int .u8 (Y x.mode),.int .u8 (Y x.skip)]:=by
 simp only[Ik,aV,Fl.dU,(fun v:UInt8=>xn v)];rfl
def Xp{x y}:aV x=aV y↔x=y:=by
 refine⟨fun e=>?_,fun e=>by rw[e]⟩;obtain⟨a,d,l,⟨r,n⟩,⟨b,c⟩,f,m,s⟩:=x;obtain⟨g,h,i,⟨r',j⟩,⟨o,p⟩,q,m',t⟩:=y;unfold aV at e;simp only[Array.mk.injEq,L6,Value.int.injEq,Value.bool.injEq,lQ,zN,BZ]at e
 grind
def ag3(x y)(w):(binOp .eql 36 (aV x) (aV y)).run prog w= .ok (decide (x=y)) w:=by
 have⟨b,a,c,_⟩:=Fl.zh (P:=prog) w (t:=36) (ks:=Ik) (d:=5) (m:=5) (xs:=aV x) (ys:=aV y) (by kernel_rfl) (by kernel_rfl) (dr rfl) (by kernel_rfl) (by kernel_rfl) (Uu x) (Uu y);rw[Xp]at a
 grind
def afA(n sb)(x)(l a)(w)(h:rC w n sb x l a)(p:1<=x.op.toNat)(q:x.op.toNat<=8)(c:bh w):Calls prog 154 #[.pointer (n:Nat)] w (Rs (.bool (decide (x=sB x))) w):=by
 have s:=ag3 x (sB x);have e:=fun d b=>Ya sb x l a (Go.Sort.grow (redrawn w d) b) (h.r.Z (jO w d b) h.r.lt) p q (c.Z (jO w d b) c.lt);have⟨v,f⟩:=eX (decide (x=sB x));have⟨y,g⟩:=eX (aV (sB x));have⟨t,j⟩:=eX (aV x);rw[<-f,<-g,<-j]at s;rw[<-g]at e;rw[<-f];have u:=fun d b=>bO h.box.C d b;have r:t=J 10 fun i=>lJ x l a (0+i):=by rw[j];rfl
 have m:=aD e (AP h.r) r;clear h c e f g j r p q;go_enter func154,ntmps154
 go_upto_region 1 with fail
 refine bV (by kernel_rfl) ?_
 repeat(first|(refine Bp rfl 0 10 m.b m.C (dr rfl) mr rfl kz rfl ?_;simp only[o])|go_big_quiet_step (first|(go_at_call 155;with_reducible exact aX (m.a _ _)))|quiet_step (fail))
 refine qh fun W c=>?_;clear u;go_wp2;go_ret;exact⟨rfl,c.y⟩
end
section
attribute [local irreducible] Code.wp wpList Oper.wp wpQuiet
def Co(a b:Nat):List Value:=[.func (.func 153) #[] #[.pointer a],.func (.func 154) #[] #[.pointer a],.func (.func 156) #[] #[.pointer a],.func (.func 157) #[] #[.pointer a],.func (.func 159) #[] #[.pointer a],
 .func (.func 161) #[.pointer b] #[],.func (.func 162) #[.pointer b] #[],.func (.func 163) #[] #[.pointer a]]
def Z3(a:Nat)(w):Calls prog 91 #[.pointer a] w fun e b=>e=(Value.slice (w+1:Nat) 8 8)/\b=(w.alloc (.cells #[.pointer a] 266)).alloc (.cells (Co w a).toArray 31):=by
 go_enter func91,ntmps91;go_wp2;go_ret;exact⟨rfl,rfl⟩
structure Ty(w:World)(l:Nat)(wr:World):Prop where
 y:Below w w wr
 spot:∃x a,rC wr (w.1.size+1) w.1.size x l a
 row:∀(j:Nat) v,(Co (w.1.size+1) w.1.size)[j]? =some v->wr.cell? ⟨w.1.size+2,j,none⟩=some v
 lt:w.1.size+2<wr.1.size
structure Dh(w:World)(x:Ins)(l a:Nat)(wr:World):Prop where
 y:Below w w wr
 spot:rC wr (w.1.size+1) w.1.size x l a
 row:∀(j:Nat) v,(Co (w.1.size+1) w.1.size)[j]? =some v->wr.cell? ⟨w.1.size+2,j,none⟩=some v
 lt:w.1.size+2<wr.1.size
def Dh.Z{w W W'}{x}{l a}(h:Dh w x l a W)(f:Below W W W'):Dh w x l a W':=
 ⟨h.y.t (f.m h.y.size),h.spot.Z f,fun j v g=>(f.C (p:=⟨w+2,j,none⟩) h.lt).t (h.row j v g),aW h.lt f.size⟩
def uN{x}{l a j:Nat}(h:(xj x l a)[j]? =false):px x l a=false:=by
 unfold px;rw[xd];exact⟨false,cB h,by decide⟩
def ac6{x}{l a}(h:∀j,j<8->(xj x l a)[j]? =true):px x l a=true:=by
 unfold px;rw[mw];intro v b;have⟨j,c,e⟩:=iD b;have:=h j c
 grind
def ID(x)(l a i)(b:i<10):lJ x l a i=(aV x)[i]!:=by
 have:i=0\/i=1\/i=2\/i=3\/i=4\/i=5\/i=6\/i=7\/i=8\/i=9:=by omega
 obtain rfl|rfl|rfl|rfl|rfl|rfl|rfl|rfl|rfl|rfl:=this<;>rfl
def abD(x x0)(l a i)(b:i<12):bm (lJ x0 l a) 0 10 (fun i=>(aV x)[i]!) i=lJ x l a i:=by
 unfold bm;by_cases h:i<10
 .rw[aq ⟨aQ _,by omega⟩,ez,ID x l a i h]
 have:i=10\/i=11:=by omega
 obtain rfl|rfl:=this<;>rfl
def Yd(x)(l a b i:Nat)(e:i<12):aU (lJ x l a) 11 (.int .i64 b) i=lJ x l b i:=by
 unfold aU;by_cases h:i=11
 .rw[aq h,h];rfl
 rw[O h];by_cases c:i<10
 .rw[ID x l a i c,ID x l b i c]
 obtain rfl:i=10:=by omega
 rfl
def Il(x)(i)(a:i<10):((aV x)[i]!).oneCell'=true:=by
 have:i=0\/i=1\/i=2\/i=3\/i=4\/i=5\/i=6\/i=7\/i=8\/i=9:=by omega
 obtain rfl|rfl|rfl|rfl|rfl|rfl|rfl|rfl|rfl|rfl:=this<;>rfl
def wh{ins:List Ins}{l k}{x:Ins}(a:ins[k]? =x)(h:px x l (ins-1-k)=false):iv ins l=false:=by
 unfold iv;cases b:uf ins l ins with
 |false=>rw[Iu]
 |true=>
  have:=(F6 (av _)).1 b k x (bL.1 a).1 a
  grind
def Qm(A:Option Addr)(ins:List Ins)(c l:Nat)(w:World)(g:jG w A ins)(o:bh w):
 Calls prog 47 #[.slice A ins.length c,.int .i64 l] w (Rs (.bool (iv ins l)) w):=by
 have⟨n,f⟩:=eX ins.length;by_cases s:12<n
 .have r:iv ins l=false:=by unfold iv;rw[gX (by omega)];rfl
  rw[r,<-f];have ar:(12:Int)<n:=by omega
  clear r g o f s;go_enter func47,ntmps47;go_wp2;go_ret;exact⟨rfl,aP _ _⟩
 have:¬(12:Int)<n:=by omega
 have⟨R,r⟩:=eX (iv ins l);rw[<-r,<-f];have s:=aY g o f r;clear g o f r;go_enter func47,ntmps47
 go_wp2_with (go_at_call 91;refine(Z3 _ _).m ?_;rintro e w9 ⟨rfl,rfl⟩)
 have⟨aa,f⟩:=eX (((w.alloc (.cells #[.int .u8 0,.int .u8 0,.int .u8 0,.bool false,.int .u8 0,.bool false,.int .u8 0,.int .u8 0,.int .u8 0,.int .u8 0,.int .i64 l,.int .i64 0] 183)).alloc (.cells #[.pointer w] 266)).alloc (.cells (Co (w.1.size+1) w.1.size).toArray 31));have o:Ty w l aa/\w.1.size+3=aa.1.size:=by
  have ab:=dE (w.alloc (.cells #[.int .u8 0,.int .u8 0,.int .u8 0,.bool false,.int .u8 0,.bool false,.int .u8 0,.int .u8 0,.int .u8 0,.int .u8 0,.int .i64 l,.int .i64 0] 183)) 266 (.pointer w);rw[cT]at ab;rw[f];refine⟨⟨((ba w _).alloc (by simp) _).alloc (by simp;omega) _,⟨⟨0,0,0,⟨false,0⟩,⟨false,0⟩,0,0,0⟩,0,⟨ab.alloc _,((aj.dq w 183 12 (lJ ⟨0,0,0,⟨false,0⟩,⟨false,0⟩,0,0,0⟩ l 0) _ rfl).alloc _).alloc _⟩⟩,fun j v u=>?_,by simp⟩,by simp⟩;have:=oy ((w.alloc (.cells #[.int .u8 0,.int .u8 0,.int .u8 0,.bool false,.int .u8 0,.bool false,.int .u8 0,.int .u8 0,.int .u8 0,.int .u8 0,.int .i64 l,.int .i64 0] 183)).alloc (.cells #[.pointer w] 266)) (Co (w.1.size+1) w.1.size) 31 j v u;rw[eV,cK]at this;simp only[cT,mq,Nat.reduceAdd]at this;exact this
 rw[<-f];simp only[mq,Nat.reduceAdd];have ae:=H o;have af:=Bu;have⟨ad,g⟩:=eX (aV ⟨0,0,0,⟨false,0⟩,⟨false,0⟩,0,0,0⟩);rw[<-g]at af;have Q:ad.size=10:=by rw[g];rfl
 have:¬ad=#[]:=by intro e;rw[e]at Q;exact absurd Q (dr rfl)
 clear o f g
 go_loopw [19] (fun i wr=>∃k:Nat,k<=n/\i= .int .i64 k/\uf ins l k=true/\Ty w l wr) (fun i _=>n-(intOf i).toNat)
 case atStart=>exact⟨0,aQ _,rfl,rfl,ae.a⟩
 obtain⟨k,au,rfl,P,z⟩:=hrel;have⟨N,ag⟩:=eX wr;subst ag;by_cases ah:k<n
 .obtain⟨b,T,rfl,ai,C⟩:=s.a (by rw[<-s.c];omega);obtain⟨x,f⟩:∃x,ins[k]? =some x:=⟨_,aI (by rw[<-s.c];exact ah)⟩
  have o:N.rangeAt b (T+k*10) (aV x).toList:=BS fun j y=>(z.y.C (p:=⟨b,T+k*10+j,none⟩) ai).t (C k x f j y);have⟨ak,W,r⟩:=z.spot;have⟨al,t⟩:=eX (aV x);have⟨a,E⟩:=eX (n-1-k);have:(k:Int)<n:=by omega
  have:(n:Int)-1-k=a:=by omega
  have:=r.r.lt;have:=z.lt;rw[<-t]at o;have g:=dH P z f o r (t.t (yO x).s) E;clear P z f o r t E C
  go_upto_region 8 with(first|(refine mh (fun i=>(aV x)[i]!) g.f Q kz (fun i f=>Il x i f) rfl rfl ?_;intro t r o)|refine iI rfl _ _ rfl b (T+k*10) rfl al.toList _ g.d mr rfl (by rw[ML,g.f,dF];exact kz) ?_)
  have L:=aD r (g.e.r.Z o g.e.r.lt) o;clear r o
  go_upto_region 9 with(first|(refine br 0 10 L.a (cD g.f) (dr rfl) mr rfl kz rfl ?_)|(refine yb 0 10 (fun i=>(aV x)[i]!) (lJ x l W) L.b g.f (dr rfl) kz (fun i f=>Il x i f) (fun i f=>abD x ak l W i f) rfl rfl ?_;intro F C o)|(refine kI 11 (.int .i64 a) (lJ x l a) C (dr rfl) uA rfl (fun i f=>Yd x l W a i f) rfl rfl ?_;intro t E r))
  have f:Dh w x l a t:=by
   have z:=g.b;have:=L.C.size;have X:∀q,q<N.1.size->q≠w.1.size->t.1[q]? =N.1[q]?:=fun q am av=>(r.block q (by have:=o.size;omega) (sn (by omega))).t ((o.block q (by omega) (sn (by omega))).t (L.C.block q am));have an:N.1.size<=t:=by have:=o.size;have:=r.size;omega
   refine⟨⟨r.os.t (o.os.t (L.C.os.t z.y.os)),r.tape.t (o.tape.t (L.C.tape.t z.y.tape)),r.output.t (o.output.t (L.C.output.t z.y.output)),aO z.y.size an,fun q F=>(X q (aW F z.y.size) (by omega)).t (z.y.block q F)⟩,⟨(X _ (by omega) (by omega)).t g.e.box,E⟩,fun j v u=>(uW (w:=N) (X _ z.lt (by show w.1.size+2≠w;omega))).t (z.row j v u),by have:=z.lt;omega⟩
  have ao:=H f;clear f C E o r
  go_upto_region 10 with fail
  go_loopw [34] (fun j f=>∃m:Nat,m<=8/\j= .int .i64 m/\(∀j,j<m->(xj x l a)[j]? =true)/\Dh w x l a f) (fun j _=>8-(intOf j).toNat)
  case atStart=>exact⟨0,by decide,rfl,fun j h=>absurd h (jD _),ao.y⟩
  obtain⟨m,aw,rfl,O,y⟩:=hrel;by_cases ap:m<8
  .have C:=y.row m;have J:bh wr:=s.b.Z y.y s.b.lt;have I:1<=m->1<=x.op/\x.op<=8:=fun h=>by
    have:=O 0 (by omega);unfold xj at this;simp only[List.getElem?_cons_zero,Hu,cH,lD,Uw]at this;exact this
   have aq:m=0\/m=1\/m=2\/m=3\/m=4\/m=5\/m=6\/m=7:=by omega
   have E:=y.spot;obtain⟨v,u⟩:∃v,(xj x l a)[m]? =some v:=⟨_,aI ap⟩
   have f:=aD y O u;have:=y.lt;clear y O;obtain rfl|rfl|rfl|rfl|rfl|rfl|rfl|rfl:=aq
   .have o:=aci _ _ _ _ _ wr E;rw[aR (show some (decide (1<=x.op)&&decide (x.op<=8))=some v from u)]at o;have cr:=C _ rfl;have t:=H o;clear o E C I J u;cases v
    .go_wp2_with (go_at_call 153;refine t.y.st fun F r=>?_)
     go_ret;exact⟨M (by rw[s.D];exact(wh g.c (by rw[<-s.c,<-g.G];exact uN f.C)).s),f.a.y.t (r.m f.a.y.size)⟩
    go_wp2_with (go_at_call 153;refine t.y.st fun F r=>?_)
    exact⟨⟨1,by decide,rfl,fun j y=>by
     by_cases e:j=0
     .subst e;exact f.C
     .exact f.b j (by omega),f.a.Z r⟩,by decide⟩
   .have o:=afA _ _ _ _ _ wr E (I (dr rfl)).1 (I (dr rfl)).2 J;rw[aR (show some (decide (x=sB x))=some v from u)]at o;have cr:=C _ rfl;have t:=H o;clear o E C I J u;cases v
    .go_wp2_with (go_at_call 154;refine t.y.st fun F r=>?_)
     go_ret;exact⟨M (by rw[s.D];exact(wh g.c (by rw[<-s.c,<-g.G];exact uN f.C)).s),f.a.y.t (r.m f.a.y.size)⟩
    go_wp2_with (go_at_call 154;refine t.y.st fun F r=>?_)
    exact⟨⟨2,by decide,rfl,fun j y=>by
     by_cases e:j=1
     .subst e;exact f.C
     .exact f.b j (by omega),f.a.Z r⟩,by decide⟩
   .have o:=afb _ _ _ _ _ wr E;rw[aR (show some (decide (x.dst<8))=some v from u)]at o;have cr:=C _ rfl;have t:=H o;clear o E C I J u;cases v
    .go_wp2_with (go_at_call 156;refine t.y.st fun F r=>?_)
     go_ret;exact⟨M (by rw[s.D];exact(wh g.c (by rw[<-s.c,<-g.G];exact uN f.C)).s),f.a.y.t (r.m f.a.y.size)⟩
    go_wp2_with (go_at_call 156;refine t.y.st fun F r=>?_)
    exact⟨⟨3,by decide,rfl,fun j y=>by
     by_cases e:j=2
     .subst e;exact f.C
     .exact f.b j (by omega),f.a.Z r⟩,by decide⟩
   .have o:=adO _ _ _ _ _ wr E (I (dr rfl)).2 J;rw[aR (show some (!fX x 2||decide (x.loc.toNat<l))=some v from u)]at o;have cr:=C _ rfl;have t:=H o;clear o E C I J u;cases v
    .go_wp2_with (go_at_call 157;refine t.y.st fun F r=>?_)
     go_ret;exact⟨M (by rw[s.D];exact(wh g.c (by rw[<-s.c,<-g.G];exact uN f.C)).s),f.a.y.t (r.m f.a.y.size)⟩
    go_wp2_with (go_at_call 157;refine t.y.st fun F r=>?_)
    exact⟨⟨4,by decide,rfl,fun j y=>by
     by_cases e:j=3
     .subst e;exact f.C
     .exact f.b j (by omega),f.a.Z r⟩,by decide⟩
   .have o:=adG _ _ _ _ _ wr E;rw[aR (show some (oJ x.a&&oJ x.b)=some v from u)]at o;have cr:=C _ rfl;have t:=H o;clear o E C I J u;cases v
    .go_wp2_with (go_at_call 159;refine t.y.st fun F r=>?_)
     go_ret;exact⟨M (by rw[s.D];exact(wh g.c (by rw[<-s.c,<-g.G];exact uN f.C)).s),f.a.y.t (r.m f.a.y.size)⟩
    go_wp2_with (go_at_call 159;refine t.y.st fun F r=>?_)
    exact⟨⟨5,by decide,rfl,fun j y=>by
     by_cases e:j=4
     .subst e;exact f.C
     .exact f.b j (by omega),f.a.Z r⟩,by decide⟩
   .have o:=Z4 _ _ _ _ wr E.r;rw[aR (show some (vP x)=some v from u)]at o;have cr:=C _ rfl;have t:=H o;clear o E C I J u;cases v
    .go_wp2_with (go_at_call 161;refine t.y.st fun F r=>?_)
     go_ret;exact⟨M (by rw[s.D];exact(wh g.c (by rw[<-s.c,<-g.G];exact uN f.C)).s),f.a.y.t (r.m f.a.y.size)⟩
    go_wp2_with (go_at_call 161;refine t.y.st fun F r=>?_)
    exact⟨⟨6,by decide,rfl,fun j y=>by
     by_cases e:j=5
     .subst e;exact f.C
     .exact f.b j (by omega),f.a.Z r⟩,by decide⟩
   .have o:=Z9 _ _ _ _ wr E.r;rw[aR (show some (uQ x)=some v from u)]at o;have cr:=C _ rfl;have t:=H o;clear o E C I J u;cases v
    .go_wp2_with (go_at_call 162;refine t.y.st fun F r=>?_)
     go_ret;exact⟨M (by rw[s.D];exact(wh g.c (by rw[<-s.c,<-g.G];exact uN f.C)).s),f.a.y.t (r.m f.a.y.size)⟩
    go_wp2_with (go_at_call 162;refine t.y.st fun F r=>?_)
    exact⟨⟨7,by decide,rfl,fun j y=>by
     by_cases e:j=6
     .subst e;exact f.C
     .exact f.b j (by omega),f.a.Z r⟩,by decide⟩
   have o:=afB _ _ _ _ _ wr E (I (dr rfl)).2 J;rw[aR (show some (!fX x 64||(decide (1<=x.skip)&&decide (x.skip.toNat<=a)))=some v from u)]at o;have:=C _ rfl;have t:=H o;clear o E C I J u;cases v
   .go_wp2_with (go_at_call 163;refine t.y.st fun F r=>?_)
    go_ret;exact⟨M (by rw[s.D];exact(wh g.c (by rw[<-s.c,<-g.G];exact uN f.C)).s),f.a.y.t (r.m f.a.y.size)⟩
   go_wp2_with (go_at_call 163;refine t.y.st fun F r=>?_)
   exact⟨⟨8,by decide,rfl,fun j y=>by
    by_cases e:j=7
    .subst e;exact f.C
    .exact f.b j (by omega),f.a.Z r⟩,by decide⟩
  obtain rfl:m=8:=by omega
  have f:=aA y (ac6 O);clear y O;go_wp2;refine⟨⟨k+1,by omega,by go_num,?_,⟨f.a.y,⟨_,_,f.a.spot⟩,f.a.row,f.a.lt⟩⟩,by simp[intOf];omega⟩;rw[Xy g.c,g.a,<-s.c,<-g.G,f.B];rfl
 obtain rfl:k=n:=by omega
 have g:=aA P z.y;clear P z;go_wp2;go_ret;refine⟨M ?_,g.B⟩;rw[s.D];unfold iv;rw[<-s.c,fB (by omega),g.a];rfl
end
def Yw(C N:Nat)(aF:C<=100)(aG:N<=100):∀(d:Nat)(b Q:Nat)(g:Nat->Value)(x:Ct)(w:World),d<=20->(∀j,j<5->w.cell? ⟨b,Q+j,none⟩=some (g j))->b<w.1.size->sP d w g x->
 Calls prog 92 #[.pointer (some ⟨b,Q,none⟩),.int .i64 C,.int .i64 N,.int .i64 d] w (Rs (.bool (lk C N d x)) w):=by
 intro d
 induction d with
 |zero=>
  intro b Q g x w _ _ _ _;show Calls _ _ #[_,_,_,.int .i64 0] _ _;rw[show lk C N 0 x=false from rfl];go_enter func92,ntmps92;go_wp2;go_ret;exact⟨rfl,aP _ _⟩
 |succ d ab=>
  rintro b Q g ⟨k,t,n,v,l⟩ w aH O aw ⟨⟨ad,ag,I,A⟩,K,c,ah,ae,ai⟩;have aj:=(O 0 (dr rfl)).t (cs ad);have ax:=(O 1 (dr rfl)).t (cs ag);have ay:=(O 2 (dr rfl)).t (cs I);have az:=(O 3 (dr rfl)).t (cs A);have af:=(O 4 (dr rfl)).t (cs ah);rw[vY]at aj;have⟨R,r⟩:=eX (lk C N (d+1) (.mk k t n v l));rw[<-r];simp only[lk]at r;have⟨D,ak⟩:=eX (((d+1:Nat):Int):Int);have:(D==0)=false:=by simp;omega
  have al:D-1=d:=by omega
  have:D<100:=by omega
  have:0<D:=by omega
  rw[<-ak];obtain⟨f,P⟩:∃z,z=Y k:=⟨_,rfl⟩
  obtain⟨J,a⟩:∃z,z=Y t:=⟨_,rfl⟩
  obtain⟨E,o⟩:∃z,z=Y n:=⟨_,rfl⟩
  obtain⟨aB,W⟩:∃z,z=Y v:=⟨_,rfl⟩
  rw[<-P]at aj;rw[<-a]at ax;rw[<-o]at ay;rw[<-W]at az;have F:∀{z:Int}{u:UInt8},z=Y u->∀q:UInt8,(u==q)=(z==Y q):=fun{z u} h q=>by rw[h,kf]
  have am:∀q:UInt8,(k=q)=(f=Y q):=fun q=>by rw[P];exact propext lQ.s
  have⟨B,aa⟩:=eX (Ci t n v);have T:B=(J==0&&(E==0&&aB==0)):=by rw[aa];unfold Ci;rw[F a,F o,F W];rfl
  rw[<-aa]at r;simp only[am,F a,show Y 0=0 from rfl,show Y 1=1 from rfl,show Y 2=2 from rfl,show Y 3=3 from rfl,show Y 4=4 from rfl,show Y 5=5 from rfl]at r;have aq:((t.toNat:Int))=J:=by rw[a];rfl
  have ar:((n.toNat:Int))=E:=by rw[o];rfl
  have an:decide (n<8)=decide (E<8):=by rw[o];exact(Ba n 8).s
  have ao:decide (t.toNat<C)=decide (J<(C:Int)):=by rw[kG,jF,jF];omega
  have ap:decide (n.toNat<N)=decide (E<(N:Int)):=by rw[kG,jF,jF];omega
  rw[an,ao,ap]at r;have t0:0<=J:=by rw[a];exact iW _
  have t1:J<256:=by rw[a];exact pC _
  have n0:0<=E:=by rw[o];exact iW _
  have au:E<256:=by rw[o];exact pC _
  have:IntKind.i64.wrap J=J:=gw _ (by omega);have:IntKind.i64.wrap E=E:=gw _ (by omega);have X:=bM r ai T ab al;unfold maxLen at ae;clear r ai T ab O ak F am P a o W aa aq ar an ao ap al ad ag I A ah t0 t1 n0 au;go_enter func92,ntmps92
  go_upto_region 3 with fail
  go_cut [9] (fun s a=>s= .bool B/\a=w)
  case first=>
   have T:=X.c;by_cases ak:J=0
   .by_cases al:E=0
    .go_wp2
     go_meet
     exact⟨by rw[T];simp[*],rfl⟩
    go_wp2
    go_meet
    exact⟨by rw[T];simp[*],rfl⟩
   go_wp2
   go_meet
   exact⟨by rw[T];simp[*],rfl⟩
  obtain⟨rfl,rfl⟩:=hcut;have r:=X.a;by_cases O:(B=true/\2<=l.length/\(f=3\/f=4))\/(B=true/\l.length=1/\f=5)
  .have aC:B=true:=by obtain h|h:=O<;>exact h.1
   subst aC;have a:R=l.all (lk C N d):=by
    rw[r];obtain⟨_,I,A|A⟩|⟨_,I,A⟩:=O<;>rw[A]<;>simp[I]
   have am:(2<=l.length/\f=3)\/(2<=l.length/\f=4)\/(l.length=1/\f=5):=by
    obtain⟨_,I,A|A⟩|⟨_,I,A⟩:=O
    .exact .inl ⟨I,A⟩
    .exact .inr (.inl ⟨I,A⟩)
    exact .inr (.inr ⟨I,A⟩)
   have an:=H a;clear r a O;have⟨L,W⟩:=eX l.length;rw[<-W]at am af ae;have ag:=H W;clear W;obtain⟨a,rfl⟩|⟨a,rfl⟩|⟨a,rfl⟩:=am
   all_goals
    first|have aa:¬(L:Int)<2:=by omega|have aa:((L:Int) !=1)=false:=by simp;omega
    clear a;go_wp2
    go_loopw [125] (fun i wr=>∃m:Nat,m<=L/\i= .int .i64 m/\Below wc wc wr/\∀(j:Nat) x,j<m->l[j]? =some x->lk C N d x=true) (fun i _=>L-(intOf i).toNat)
    case atStart=>exact⟨0,aQ _,rfl,aP _ _,fun j x P=>absurd P (jD _)⟩
    obtain⟨m,aJ,rfl,a,ad⟩:=hrel;by_cases aD:m<L
    .obtain⟨ao,ap,rfl,aq,ar⟩:=X.b (by rw[<-ag.y];omega);obtain⟨x,ah⟩:∃x,l[m]? =some x:=⟨_,aI (by rw[<-ag.y];exact aD)⟩
     have⟨aE,au,av⟩:=ar m x ah;have ab:=X.d ao (ap+m*5) aE x wr (by omega) (fun j P=>(a.C (p:=⟨ao,ap+m*5+j,none⟩) aq).t (au j P)) (aW aq a.size) (av.Z a);rw[<-X.E]at ab;have⟨v,ai⟩:=eX (lk C N d x);rw[<-ai]at ab;have:(m:Int)<L:=by omega
     have:wr.cell? ⟨b,Q+4,none⟩=_:=(a.C (p:=⟨b,Q+4,none⟩) aw).t af;have:IntKind.i64.wrap ((m:Int)+1)=(m:Int)+1:=gw _ (by omega);have:IntKind.i64.wrap (D-1)=D-1:=gw _ (by omega);have o:=bM ab a ad ah ai;clear ab a ad ah ai ar au av;cases v
     .go_wp2_with (go_at_call 92;refine o.a.st fun ai ah=>?_)
      go_ret;refine⟨M ?_,o.b.t (ah.m o.b.size)⟩;rw[an.y];symm;rw[xd];exact⟨x,cB o.d,by rw[<-o.E];decide⟩
     go_wp2_with (go_at_call 92;refine o.a.st fun ai ah=>?_)
     exact⟨⟨m+1,by omega,by go_num,o.b.t (ah.m o.b.size),fun j y P ab=>by
      by_cases e:j=m
      .subst e;rw[o.d]at ab;injection ab with ab;rw[<-ab,<-o.E]
      .exact o.c j y (by omega) ab⟩,by simp[intOf];omega⟩
    obtain rfl:m=L:=by omega
    have o:=aA a ad;clear a ad;go_wp2;go_ret;refine⟨M ?_,o.a⟩;rw[an.y];symm;rw[mw];intro x ab;have⟨j,P,e⟩:=iD ab;exact o.B j x (by rw[ag.y];exact P) (by rw[aI P,e])
  have⟨L,W⟩:=eX l.length;rw[<-W]at r O af ae;have a:=aA r O;clear r O W;by_cases P:f=0
  .subst P;cases B
   .go_wp2;go_ret;exact⟨M (by rw[a.a];first|(simp[*];done)|(simp[*];omega)),aP _ _⟩
   by_cases F:L=0
   .subst F;go_wp2;go_ret;exact⟨M (by rw[a.a];first|(simp[*];done)|(simp[*];omega)),aP _ _⟩
   have aa:((L:Int)==0)=false:=by simp;omega
   go_wp2;go_ret;exact⟨M (by rw[a.a];first|(simp[*];done)|(simp[*];omega)),aP _ _⟩
  by_cases ak:f=1
  .subst ak;by_cases ad:J<(C:Int)
   .by_cases ar:E<8
    .by_cases F:L=0
     .subst F;go_wp2;go_ret;exact⟨M (by rw[a.a];first|(simp[*];done)|(simp[*];omega)),aP _ _⟩
     have aa:((L:Int)==0)=false:=by simp;omega
     go_wp2;go_ret;exact⟨M (by rw[a.a];first|(simp[*];done)|(simp[*];omega)),aP _ _⟩
    go_wp2;go_ret;exact⟨M (by rw[a.a];first|(simp[*];done)|(simp[*];omega)),aP _ _⟩
   go_wp2;go_ret;exact⟨M (by rw[a.a];first|(simp[*];done)|(simp[*];omega)),aP _ _⟩
  by_cases al:f=2
  .subst al;by_cases E<(N:Int)
   .by_cases J=0
    .by_cases F:L=0
     .subst F;go_wp2;go_ret;exact⟨M (by rw[a.a];first|(simp[*];done)|(simp[*];omega)),aP _ _⟩
     have aa:((L:Int)==0)=false:=by simp;omega
     go_wp2;go_ret;exact⟨M (by rw[a.a];first|(simp[*];done)|(simp[*];omega)),aP _ _⟩
    go_wp2;go_ret;exact⟨M (by rw[a.a];first|(simp[*];done)|(simp[*];omega)),aP _ _⟩
   go_wp2;go_ret;exact⟨M (by rw[a.a];first|(simp[*];done)|(simp[*];omega)),aP _ _⟩
  by_cases r:f=3\/f=4
  .have O:=a.B;cases B
   .obtain rfl|rfl:=r
    all_goals
     go_wp2;go_ret;exact⟨M (by rw[a.a];first|(simp[*];done)|(simp[*];omega)),aP _ _⟩
   have au:L<2:=KK fun e=>O (.inl ⟨rfl,e,r⟩);have aa:(L:Int)<2:=by omega
   obtain rfl|rfl:=r
   all_goals
    clear O;go_wp2;go_ret;exact⟨M (by rw[a.a];simp;omega),aP _ _⟩
  by_cases W:f=5
  .have O:=a.B;subst W;cases B
   .go_wp2;go_ret;exact⟨M (by rw[a.a];first|(simp[*];done)|(simp[*];omega)),aP _ _⟩
   have:L≠1:=fun e=>O (.inr ⟨rfl,e,rfl⟩);have:((L:Int) !=1)=true:=by simp;omega
   clear O;go_wp2;go_ret;exact⟨M (by rw[a.a];simp;omega),aP _ _⟩
  have:f≠3:=fun e=>r (.inl e);have:f≠4:=fun e=>r (.inr e);go_wp2;go_ret;exact⟨M (by rw[a.a];first|(simp[*];done)|(simp[*];omega)),aP _ _⟩
def YE(s):pT s=(rE s&&match pd s with
 |[t,_]=>t.kind==1&&decide (jf s t=s)
 |_=>false):=by
 unfold pT rE;obtain _|⟨a,_|⟨b,_|⟨c,l⟩⟩⟩:=pd s<;>simp only[Bool.and_assoc]
def agi(s)(w):Calls prog 40 #[.string s] w (Rs (.bool (pT s)) w):=by
 have⟨R,f⟩:=eX (pT s);rw[<-f];rw[YE]at f;have q:=H f;clear f;go_enter func40,ntmps40
 go_upto_region 2 with(go_at_call 88;refine(acV s w).m ?_;rintro e i ⟨m,v,o,h,rfl,hx⟩;have p:=aA m hx)
 have⟨m,hx⟩:=p.y;obtain⟨J,r,rfl⟩|⟨rfl,r,o⟩:=hx
 .have:(h==0)=false:=by simpa using J
  have h:=aA m r;go_wp2;go_ret;exact⟨M (by rw[q.y,h.B];rfl),h.a⟩
 .obtain⟨A,k,rfl⟩:=bo o (dr rfl);have⟨n,i⟩:=eX (pd s).length;rw[<-i]at o⊢;by_cases C:n=2
  .subst C;obtain⟨t,u,z⟩:∃t u,pd s=[t,u]:=by
    rcases E:pd s with _|⟨a,_|⟨b,_|⟨c,l⟩⟩⟩<;>rw[E]at i<;>simp at i;exact⟨a,b,rfl⟩
   obtain⟨y,_⟩|⟨g,P,Q,y,_⟩:=o.2
   .exact absurd (show(2:Nat)=0 from by injection y) (dr rfl)
   have:=(o.lt g (by rw[y];rfl)).2;have F:=fun j u L=>o.cells (g:=g) (by rw[y];rfl) j u L;have N:=F 0 (.int .u8 t.kind) (by rw[z];rfl);have I:=F 1 (.string (jf s t)) (by rw[z];rfl);rw[eV,cK]at N I;have f:=q.y;rw[r,z,kQ]at f;have⟨v,O⟩:=eX (Value.slice A 2 k);have h:=aA m f;clear m f F o i z q r p O;rw[y];by_cases z:t.kind=1
   .have O:((t.kind:Int)==1)=true:=by simp[z]
    have⟨x,hx⟩:=eX (jf s t);rw[<-hx]at I;have p:=H hx;clear hx;have F:=H z;clear z;by_cases z:x=s
    .have T:=Hh.2 z;go_wp2;go_ret;exact⟨M (by rw[h.B,<-p.y,F.y];simp[z]),h.a⟩
    have:(x.toList==s.toList)=false:=by rw[xu];exact fun e=>z (Hh.1 e)
    go_wp2;go_ret;exact⟨M (by rw[h.B,<-p.y,F.y];simp[z]),h.a⟩
   have:((t.kind:Int)==1)=false:=by simp;omega
   go_wp2;go_ret;exact⟨M (by rw[h.B];simp[*]),h.a⟩
  .have:((n:Int)==2)=false:=by simp;omega
   have f:=q.y;rw[show(match pd s with
 |[t,_]=>t.kind==1&&decide (jf s t=s)
 |_=>false)=false from by
  rcases E:pd s with _|⟨a,_|⟨b,_|⟨c,l⟩⟩⟩<;>first|rfl|(rw[E]at i;simp at i;exact absurd i C),Iu]at f
   have h:=aA m f;clear m f o i q r p C;go_wp2;go_ret;exact⟨M (by rw[h.B]),h.a⟩
section
attribute [local irreducible] Code.wp wpList Oper.wp wpQuiet
structure qm(w:World)(cb pb:Nat)(g:Nat->Value):Prop where
 box:Boxed w cb 83 (.pointer pb)
 r:aj w pb 29 10 g
def qm.Z{w w'}{cb pb}{g}(h:qm w cb pb g)(f:Below w w w'):qm w' cb pb g:=⟨(f.block _ h.box.lt).t h.box,h.r.Z f h.r.lt⟩
def tJ{W}{pb}{g}(h:aj W pb 29 10 g)(j)(a:j<10){v}(b:g j=v):W.cell? ⟨pb,j,none⟩=some v:=(h.C j a).t (cs b)
def Oy(t E:Nat)(g:Nat->Value)(p:a8)(Q:List Ins->Bool)(gf:Nat)(u:Array Value)(w:World)(h:qm w t E g)(F:eE w g p)(H:p.h.length<=4)(R:∀args w,(callFunc gf args).run prog w= .ok (.enter gf args) w)
 (I:∀W,Below w w W->∀(k:Nat)(ins:List Ins)(A:Option Addr)(c:Nat),p.h[k]? =ins->jG W A ins->Calls prog gf (#[.slice A ins c]++u) W (Rs (Q ins) W)):
 Calls prog 38 #[.func (.func gf) #[] u,.pointer t] w (Rs (p.h.all Q) w):=by
 have:=h.box.C;have⟨T,X,J,L⟩:=F.h;have N:=tJ h.r 3 (dr rfl) J;have⟨n,x⟩:=eX p.h.length;rw[<-x]at N H;have m:=aD I L x;go_enter func38,ntmps38;go_wp2
 go_loopw [11] (fun i wr=>∃k,k<=n/\i= .int .i64 k/\Below w.1.size w wr/\∀(j:Nat) ins,j<k->p.h[j]? =some ins->Q ins=true) (fun i _=>n-(intOf i).toNat)
 case atStart=>exact⟨0,aQ _,rfl,aP _ _,fun j ins o=>absurd o (jD _)⟩
 obtain⟨k,aa,rfl,f,q⟩:=hrel;by_cases k<n
 .obtain⟨b,O,rfl,P,y⟩:=m.b (by have:=m.C;omega);obtain⟨ins,l⟩:∃ins,p.h[k]? =some ins:=⟨_,aI (by have:=m.C;omega)⟩
  have⟨A,c,z,C,_⟩:=y k ins l;have:=(f.C (p:=⟨b,O+k,none⟩) P).t z;have r:=m.a wr f k ins A c l (C.Z f (av _));have⟨v,s⟩:=eX (Q ins);rw[<-s]at r;have:(k:Int)<n:=by omega
  have a:=bM f q r l s;clear f q r l s y z C;cases v
  .go_wp2_with (go_at_fn gf;refine a.c.st fun s r=>?_)
   go_ret;refine⟨M ?_,a.a.t (r.m a.a.size)⟩;symm;rw[xd];exact⟨ins,cB a.d,by rw[<-a.E];decide⟩
  go_wp2_with (go_at_fn gf;refine a.c.st fun s r=>?_)
  exact⟨⟨k+1,by omega,by go_num,a.a.t (r.m a.a.size),fun j i o l=>by
   by_cases e:j=k
   .subst e;rw[a.d]at l;injection l with l;rw[<-l,<-a.E]
   .exact a.b j i (by omega) l⟩,by simp[intOf];omega⟩
 obtain rfl:k=n:=by omega
 have a:=aA f q;clear f q;go_wp2;go_ret;refine⟨M ?_,a.a⟩;symm;rw[mw];intro ins l;have⟨j,o,e⟩:=iD l;exact a.B j ins (by rw[m.C];exact o) (by rw[aI o,e])
def sK(a:Nat):Value:= .func (.func 38) #[] #[.pointer a]
def af6(cb pb)(g)(s)(w)(h:qm w cb pb g)(a:g 0= .string s):
 Calls prog 39 #[.pointer cb] w (Rs (pT s) w):=by
 have:=h.box.C;have:=tJ h.r 0 (dr rfl) a;go_enter func39,ntmps39
 go_wp2_with (go_at_call 40;refine(H (agi s w)).y.st fun c b=>?_)
 go_ret;exact⟨rfl,b⟩
def Zp(cb pb)(g)(w)(h:qm w cb pb g)(B:Bool)(a:Calls prog 42 #[.pointer pb] w (Rs B w)):
 Calls prog 41 #[.pointer cb] w (Rs B w):=by
 have:=h.box.C;go_enter func41,ntmps41
 go_wp2_with (go_at_call 42;refine(H a).y.st fun c b=>?_)
 go_ret;exact⟨rfl,b⟩
def Vo(A)(n c)(w):Calls prog 44 #[.slice A n c] w (Rs (decide (n<=12)) w):=by
 have:decide ((n:Int)<=12)=decide (n<=12):=by rw[kG,jF,jF];omega
 have⟨B,a⟩:=eX (decide (n<=12));clear a;go_enter func44,ntmps44;go_wp2;go_ret;exact⟨rfl,aP _ _⟩
def aa9(b j l:Nat)(g:Nat->Value)(p:a8)(w:World)(h:qm w b l g)(m:Boxed w j 118 (sK b))(i:eE w g p):
 Calls prog 43 #[.pointer b,.pointer j] w (Rs (nZ p.h) w):=by
 have:=h.box.C;have s:=m.C;unfold sK at s;have⟨T,x,o,t⟩:=i.h;have u:=tJ h.r 3 (dr rfl) o;have⟨R,a⟩:=eX (nZ p.h);rw[<-a];unfold nZ at a;have e:=fun v=>Oy b l g p (fun ins=>decide (ins.length<=12)) 44 #[] w h i v (gH func44 (by kernel_rfl) rfl) (fun W f k ins A c q r=>Vo A ins c W);have⟨n,q⟩:=eX p.h.length;rw[<-q]at u a e;have⟨B,r⟩:=eX (p.h.all fun ins=>decide (ins.length<=12));rw[<-r]at a e;have f:=aA a e;clear h m i t a e q r o;go_enter func43,ntmps43;by_cases a:1<=n
 .have m:(1:Int)<=n:=by omega
  by_cases e:n<=4
  .have o:(n:Int)<=4:=by omega
   go_wp2_with (go_at_call 38;refine(f.B e).st fun q i=>?_)
   go_ret;exact⟨M (by rw[f.a];simp[a,e]),i⟩
  have:¬(n:Int)<=4:=by omega
  go_wp2;go_ret;exact⟨M (by rw[f.a];simp[a,e]),aP _ _⟩
 have:¬(1:Int)<=n:=by omega
 go_wp2;go_ret;exact⟨M (by rw[f.a];simp[a]),aP _ _⟩
def adk(cb pb)(g)(L)(n lc)(A)(ins)(c)(w)(h:qm w cb pb g)(e:g 1= .slice L n lc)(a:jG w A ins)(b:bh w):
 Calls prog 46 #[.slice A ins c,.pointer cb] w (Rs (iv ins n) w):=by
 have:=h.box.C;have:=tJ h.r 1 (dr rfl) e;have f:=H (Qm A ins c n w a b);clear h a b;go_enter func46,ntmps46
 go_wp2_with (go_at_call 47;refine f.y.st fun b a=>?_)
 go_ret;exact⟨rfl,a⟩
def afO(cb eb pb)(g)(p)(w)(h:qm w cb pb g)(f:Boxed w eb 118 (sK cb))(a:eE w g p)(i:p.h.length<=4)(b:bh w):
 Calls prog 45 #[.pointer eb,.pointer cb] w (Rs (p.h.all fun ins=>iv ins p.N) w):=by
 have:=h.box.C;have j:=f.C;unfold sK at j;have⟨L,l,m⟩:=a.N;go_enter func45,ntmps45
 go_wp2_with (go_at_call 38;refine(H (Oy cb pb g p (fun ins=>iv ins p.N) 46 #[.pointer cb] w h a i (gH func46 (by kernel_rfl) rfl) (fun W e k ins A c q n=>adk cb pb g L p.N l A ins c W (h.Z e) m n (b.Z e b.lt)))).y.st fun r o=>?_)
 go_ret;exact⟨rfl,o⟩
def aau(cb pb)(g)(a)(w)(h:qm w cb pb g)(b:g 4= .int .u8 (Y a)):
 Calls prog 48 #[.pointer cb] w (Rs (vX a) w):=by
 have:=h.box.C;have f:=tJ h.r 4 (dr rfl) b;have c:vX a=(Y a==1||(Y a==2||Y a==3)):=by
  unfold vX;rw[<-kf,<-kf,<-kf];rfl
 rw[c];have⟨z,e⟩:=eX (Y a);rw[<-e]at f⊢;clear h e c b;go_enter func48,ntmps48;by_cases b:z=1
 .subst b;go_wp2;go_ret;exact⟨rfl,aP _ _⟩
 by_cases c:z=2
 .subst c;go_wp2;go_ret;exact⟨rfl,aP _ _⟩
 go_wp2;go_ret;exact⟨M (F0 _ _ _),aP _ _⟩
def QG:prog.underlying 27=some (.struct (prog.fieldsOf 27)):=by kernel_rfl
def aaw:(prog.info? 27).map (·.size)=some 5:=by kernel_rfl
def XM(C N:Nat)(g:Nat->Value)(x:Ct)(w:World)(m:C<=100)(n:N<=100)(h:sP 20 w g x):
 Calls prog 50 #[.agg (J 5 g),.int .i64 C,.int .i64 N] w (Rs (.bool (lk C N 20 x)) w):=by
 have⟨c,a⟩:=eX (w.alloc (.cells (J 5 g) 27));have e:aj c w.1.size 27 5 g:=by rw[a];exact aj.new _ _ _ _
 have f:Below w w c:=by rw[a];exact ba w _
 have i:=Yw C N m n 20 w.1.size 0 g x c (av _) (fun j b=>by rw[cK];exact e.C j b) e.lt (h.Z f);rw[show((20:Nat):Int)=20 from rfl]at i;have⟨G,l⟩:=eX (J 5 g);rw[<-l]at a⊢;have:=bT l (dr rfl);have b:=aD i f a;clear i f a e h l;go_enter func50,ntmps50
 go_upto_region 1 with fail
 rw[<-b.C]
 go_wp2_with (go_at_call 92;refine b.a.st fun e a=>?_)
 go_ret;exact⟨rfl,b.b.t (a.m b.b.size)⟩
def Ye(cb pb)(g)(p)(x)(w)(h:qm w cb pb g)(b:eE w g p)(r:sP 20 w (fun j=>g (5+j)) x)(t:p.h.length<=4)(u:p.N<=6):
 Calls prog 49 #[.pointer cb] w (Rs (lk ↑p.h p.N 20 x) w):=by
 have⟨T,y,s,v⟩:=b.h;have⟨L,z,e1⟩:=b.N;have:=fun d a=>bO h.box.C d a;have d3:=fun d a=>bO (tJ h.r 3 (dr rfl) s) d a;have d1:=fun d a=>bO (tJ h.r 1 (dr rfl) e1) d a;have c:=fun d a=>XM p.h.length p.N (fun j=>g (5+j)) x (Go.Sort.grow (redrawn w d) a) (by omega) (by omega) (r.Z (jO w d a));have⟨B,e⟩:=eX (lk p.h p.N 20 x);have⟨n,f⟩:=eX p.h.length;have⟨l,i⟩:=eX p.N;have⟨G,m⟩:=eX (J 5 fun j=>g (5+j));rw[<-e,<-f,<-i,<-m]at c;rw[<-e];rw[<-f]at d3;rw[<-i]at d1;have q:=aD c (AP h.r) m;clear h b r v s e1 c e m f i t u;go_enter func49,ntmps49
 go_upto_region 1 with fail
 refine bV (by kernel_rfl) ?_
 repeat(first|(refine Bp rfl 5 5 q.b q.C (dr rfl) QG rfl aaw rfl ?_;simp only[o])|go_big_quiet_step (first|(go_at_call 50;with_reducible exact aX (q.a _ _)))|quiet_step (fail))
 refine qn fun W b=>?_;go_wp2;go_ret;exact⟨rfl,(H b).y⟩
end
section
def CN(a b:Nat):List Value:=[.int .i64 70,.func (.func 39) #[] #[.pointer a],.int .i64 71,.func (.func 41) #[] #[.pointer a],.int .i64 72,.func (.func 43) #[] #[.pointer a,.pointer b],.int .i64 73,.func (.func 45) #[] #[.pointer b,.pointer a],.int .i64 75,.func (.func 48) #[] #[.pointer a],.int .i64 74,.func (.func 49) #[] #[.pointer a]]
def ag{P}{a}{m}{w}(fn)(f c):(store a (.func fn f c) m).run P w=stored P w a (.func fn f c) m:=run_store P w a _ m rfl
attribute [local go_sem] ag
def Ys(a:Nat)(w:World):Calls prog 19 #[.pointer a] w fun e b=>e=(Value.slice (w+2:Nat) 6 6)/\b=((w.alloc (.cells #[.pointer a] 83)).alloc (.cells #[sK w] 118)).alloc (.cells (CN w (w+1)).toArray 85):=by
 go_enter func19,ntmps19;go_wp2;go_ret;exact⟨rfl,rfl⟩
structure BI(w:World)(g:Nat->Value)(wr:World):Prop where
 y:Below w w wr
 pr:qm wr (w.1.size+1) w.1.size g
 ev:Boxed wr (w.1.size+2) 118 (sK (w.1.size+1))
 row:∀(j:Nat) v,(CN (w.1.size+1) (w.1.size+2))[j]? =some v->wr.cell? ⟨w.1.size+3,j,none⟩=some v
 lt:w.1.size+3<wr.1.size
def BI.Z{w W W'}{g}(h:BI w g W)(f:Below W W W'):BI w g W':=
 ⟨h.y.t (f.m h.y.size),h.pr.Z f,(f.block _ h.ev.lt).t h.ev,fun j v i=>(f.C (p:=⟨w+3,j,none⟩) h.lt).t (h.row j v i),aW h.lt f.size⟩
def ab6(w):(zeroValue 85).run prog w= .ok (.agg #[.int .i64 0,.nilFunc]) w:=by kernel_rfl
def Rr(g:Nat->Value)(s:ml)(w:World)(r:mM w g s)(t:bh w):
 Calls prog 10 #[(J 10 g)] w (Rs (Value.int .i64 (rz s)) w):=by
 have⟨z,a⟩:=eX (w.alloc (.cells (J 10 g) 29));have f:aj z w 29 10 g:=by rw[a];exact aj.new _ _ _ _
 have b:Below w w z:=by rw[a];exact ba w _
 have Q:z.1.size=w+1:=by rw[a];simp
 have⟨G,l⟩:=eX (J 10 g);rw[<-l]at a⊢;have:=bT l (dr rfl);have⟨R,o⟩:=eX (rz s);rw[<-o];have u:∀W,W=((z.alloc (.cells #[.pointer w] 83)).alloc (.cells #[sK (w+1)] 118)).alloc (.cells (CN (w+1) (w+2)).toArray 85)->BI w g W:=by
  rintro W rfl;have F:=dE z 83 (.pointer w);have ab:=dE (z.alloc (.cells #[.pointer w] 83)) 118 (sK (w+1));simp only[cT,Q,mq,Nat.reduceAdd]at F ab;have ad:Below z z (((z.alloc (.cells #[.pointer w] 83)).alloc (.cells #[sK (w+1)] 118)).alloc (.cells (CN (w+1) (w+2)).toArray 85)):=((ba z _).alloc (by simp) _).alloc (by simp;omega) _;refine⟨b.t (ad.m b.size),⟨(F.alloc _).alloc _,f.Z ad f.lt⟩,ab.alloc _,fun j v n=>?_,by simp[Q]⟩;have:=oy ((z.alloc (.cells #[.pointer w] 83)).alloc (.cells #[sK (w+1)] 118)) (CN (w+1) (w+2)) 85 j v n;rw[eV,cK]at this;simp only[cT,Q,mq,Nat.reduceAdd]at this;exact this
 have A:=dC r t o u b a;have q:=Ys w z;rw[Q]at q;have af:=H q;have:=ab6;clear r t o u b a f l q;go_enter func10,ntmps10
 go_upto_region 1 with fail
 rw[<-A.F]
 go_wp2_with (go_at_call 19;refine af.y.st fun an a=>?_;have b:=H (A.d _ a);clear a)
 go_loopw [7] (fun i wr=>∃m:Nat,m<=6/\i= .int .i64 m/\(∀(j:Nat) x,j<m->(kY s)[j]? =some x->x.2=true)/\BI w g wr) (fun i _=>6-(intOf i).toNat)
 case atStart=>exact⟨0,by decide,rfl,fun j x h=>absurd h (jD _),b.y⟩
 obtain⟨m,ao,rfl,O,M⟩:=hrel;by_cases m<6
 .have t:=M.row;have ag:m=0\/m=1\/m=2\/m=3\/m=4\/m=5:=by omega
  have:=M.lt;have o:∀W,Below wr wr W->mM W g s/\bh W/\BI w g W:=fun W a=>by
   have aa:=M.Z a;exact⟨A.a.Z aa.y,A.b.Z aa.y A.b.lt,aa⟩
  have f:2<=m->kR s.names ↑s.init=true:=fun h=>O 1 (71,kR s.names ↑s.init) (by omega) rfl;have l:3<=m->nZ s.h=true:=fun h=>O 2 (72,nZ s.h) (by omega) rfl;have N:2<=m->s.names.length<=6:=fun h=>by have:=f h;unfold kR at this;simp only[cH,lD]at this;exact this.2.1
  have E:3<=m->s.h.length<=4:=fun h=>by have:=l h;unfold nZ at this;simp only[cH,lD]at this;exact this.2.1
  have b:=aA O M;clear O M f l;obtain rfl|rfl|rfl|rfl|rfl|rfl:=ag
  .have⟨v,n⟩:=eX (pT s.name);have u:=fun W(a:Below wr wr W)=>af6 _ _ g s.name W (o W a).2.2.pr (o W a).1.name;have T:=t 0 _ rfl;have F:=t 1 _ rfl;have y:∀W,Below wr wr W->Calls prog 39 #[.pointer (w+1:Nat)] W (Rs v W):=fun W a=>by rw[n];exact u W a
   have f:=aA y n;clear u y t o n N E;cases v
   .go_wp2_with (go_at_call 39;refine(f.a _ (ba wr _)).st fun C l=>?_;have q:=(ba wr _).t (l.m (by simp));have X:=(l.C (p:=wr) (by simp)).t (oy wr _ _ 0 _ rfl))
    go_ret;refine⟨mF ?_,b.B.y.t (q.m b.B.y.size)⟩;rw[A.c];exact(wL (kY s) 0 70 b.a (by show some ((70:Int),pT s.name)=_;rw[<-f.B])).s
   go_wp2_with (go_at_call 39;refine(f.a _ (ba wr _)).st fun C l=>?_;have q:=(ba wr _).t (l.m (by simp)))
   exact⟨⟨1,by decide,rfl,fun j x P r=>by
    by_cases e:j=0
    .subst e;rw[<-aR r];exact f.B.s
    .exact b.a j x (by omega) r,b.B.Z q⟩,by decide⟩
  .have⟨v,n⟩:=eX (kR s.names s.init);have ae:∀W,Below wr wr W->Calls prog 42 #[.pointer w] W (Rs (kR s.names ↑s.init) W):=fun W a=>by
    have⟨L,c,ah,ai,ak⟩:=(o W a).1.names;have⟨I,al,am,_⟩:=(o W a).1.prog.init;exact YQ w g L I c al s.init s.names W (o W a).2.2.pr.r ah am ai ak
   have u:=fun W(a:Below wr wr W)=>Zp _ _ g W (o W a).2.2.pr (kR s.names s.init) (ae W a);have T:=t 2 _ rfl;have F:=t 3 _ rfl;have y:∀W,Below wr wr W->Calls prog 41 #[.pointer (w+1:Nat)] W (Rs v W):=fun W a=>by rw[n];exact u W a
   have f:=aA y n;clear u y t o n N E ae;cases v
   .go_wp2_with (go_at_call 41;refine(f.a _ (ba wr _)).st fun C l=>?_;have q:=(ba wr _).t (l.m (by simp));have X:=(l.C (p:=wr) (by simp)).t (oy wr _ _ 0 _ rfl))
    go_ret;refine⟨mF ?_,b.B.y.t (q.m b.B.y.size)⟩;rw[A.c];exact(wL (kY s) 1 71 b.a (by show some ((71:Int),kR s.names s.init)=_;rw[<-f.B])).s
   go_wp2_with (go_at_call 41;refine(f.a _ (ba wr _)).st fun C l=>?_;have q:=(ba wr _).t (l.m (by simp)))
   exact⟨⟨2,by decide,rfl,fun j x P r=>by
    by_cases e:j=1
    .subst e;rw[<-aR r];exact f.B.s
    .exact b.a j x (by omega) r,b.B.Z q⟩,by decide⟩
  .have⟨v,n⟩:=eX (nZ s.h);have u:=fun W(a:Below wr wr W)=>aa9 _ _ _ g s.prog W (o W a).2.2.pr (o W a).2.2.ev (o W a).1.prog;have T:=t 4 _ rfl;have F:=t 5 _ rfl;have y:∀W,Below wr wr W->Calls prog 43 #[.pointer (w+1:Nat),.pointer (w+2:Nat)] W (Rs v W):=fun W a=>by rw[n];exact u W a
   have f:=aA y n;clear u y t o n N E;cases v
   .go_wp2_with (go_at_call 43;refine(f.a _ (ba wr _)).st fun C l=>?_;have q:=(ba wr _).t (l.m (by simp));have X:=(l.C (p:=wr) (by simp)).t (oy wr _ _ 0 _ rfl))
    go_ret;refine⟨mF ?_,b.B.y.t (q.m b.B.y.size)⟩;rw[A.c];exact(wL (kY s) 2 72 b.a (by show some ((72:Int),nZ s.h)=_;rw[<-f.B])).s
   go_wp2_with (go_at_call 43;refine(f.a _ (ba wr _)).st fun C l=>?_;have q:=(ba wr _).t (l.m (by simp)))
   exact⟨⟨3,by decide,rfl,fun j x P r=>by
    by_cases e:j=2
    .subst e;rw[<-aR r];exact f.B.s
    .exact b.a j x (by omega) r,b.B.Z q⟩,by decide⟩
  .have⟨v,n⟩:=eX (s.h.all fun ins=>iv ins s.names);have u:=fun W(a:Below wr wr W)=>afO _ _ _ g s.prog W (o W a).2.2.pr (o W a).2.2.ev (o W a).1.prog (E (dr rfl)) (o W a).2.1;have T:=t 6 _ rfl;have F:=t 7 _ rfl;have y:∀W,Below wr wr W->Calls prog 45 #[.pointer (w+2:Nat),.pointer (w+1:Nat)] W (Rs v W):=fun W a=>by rw[n];exact u W a
   have f:=aA y n;clear u y t o n N E;cases v
   .go_wp2_with (go_at_call 45;refine(f.a _ (ba wr _)).st fun C l=>?_;have q:=(ba wr _).t (l.m (by simp));have X:=(l.C (p:=wr) (by simp)).t (oy wr _ _ 0 _ rfl))
    go_ret;refine⟨mF ?_,b.B.y.t (q.m b.B.y.size)⟩;rw[A.c];exact(wL (kY s) 3 73 b.a (by show some ((73:Int),s.h.all fun ins=>iv ins s.names)=_;rw[<-f.B])).s
   go_wp2_with (go_at_call 45;refine(f.a _ (ba wr _)).st fun C l=>?_;have q:=(ba wr _).t (l.m (by simp)))
   exact⟨⟨4,by decide,rfl,fun j x P r=>by
    by_cases e:j=3
    .subst e;rw[<-aR r];exact f.B.s
    .exact b.a j x (by omega) r,b.B.Z q⟩,by decide⟩
  .have⟨v,n⟩:=eX (vX s.ask);have u:=fun W(a:Below wr wr W)=>aau _ _ g s.ask W (o W a).2.2.pr (o W a).1.ask;have T:=t 8 _ rfl;have F:=t 9 _ rfl;have y:∀W,Below wr wr W->Calls prog 48 #[.pointer (w+1:Nat)] W (Rs v W):=fun W a=>by rw[n];exact u W a
   have f:=aA y n;clear u y t o n N E;cases v
   .go_wp2_with (go_at_call 48;refine(f.a _ (ba wr _)).st fun C l=>?_;have q:=(ba wr _).t (l.m (by simp));have X:=(l.C (p:=wr) (by simp)).t (oy wr _ _ 0 _ rfl))
    go_ret;refine⟨mF ?_,b.B.y.t (q.m b.B.y.size)⟩;rw[A.c];exact(wL (kY s) 4 75 b.a (by show some ((75:Int),vX s.ask)=_;rw[<-f.B])).s
   go_wp2_with (go_at_call 48;refine(f.a _ (ba wr _)).st fun C l=>?_;have q:=(ba wr _).t (l.m (by simp)))
   exact⟨⟨5,by decide,rfl,fun j x P r=>by
    by_cases e:j=4
    .subst e;rw[<-aR r];exact f.B.s
    .exact b.a j x (by omega) r,b.B.Z q⟩,by decide⟩
  have⟨v,n⟩:=eX (lk s.h s.names 20 s.cond);have u:=fun W(a:Below wr wr W)=>Ye _ _ g s.prog s.cond W (o W a).2.2.pr (o W a).1.prog (o W a).1.cond (E (dr rfl)) (N (dr rfl));have:=t 10 _ rfl;have:=t 11 _ rfl;have y:∀W,Below wr wr W->Calls prog 49 #[.pointer (w+1:Nat)] W (Rs v W):=fun W a=>by rw[n];exact u W a
  have f:=aA y n;clear u y t o n N E;cases v
  .go_wp2_with (go_at_call 49;refine(f.a _ (ba wr _)).st fun C l=>?_;have q:=(ba wr _).t (l.m (by simp));have:=(l.C (p:=wr) (by simp)).t (oy wr _ _ 0 _ rfl))
   go_ret;refine⟨mF ?_,b.B.y.t (q.m b.B.y.size)⟩;rw[A.c];exact(wL (kY s) 5 74 b.a (by show some ((74:Int),lk s.h s.names 20 s.cond)=_;rw[<-f.B])).s
  go_wp2_with (go_at_call 49;refine(f.a _ (ba wr _)).st fun C l=>?_;have q:=(ba wr _).t (l.m (by simp)))
  exact⟨⟨6,by decide,rfl,fun j x P r=>by
   by_cases e:j=5
   .subst e;rw[<-aR r];exact f.B.s
   .exact b.a j x (by omega) r,b.B.Z q⟩,by decide⟩
 obtain rfl:m=6:=by omega
 have b:=aA O M;clear O M;go_wp2;go_ret;refine⟨mF ?_,b.B.y⟩;rw[A.c];exact(PG _ fun j x r=>b.a j x (by have:=(bL.1 r).1;exact this) r).s
end
section
def tS(M:Ms):Prop:=∀t j,9<=j->M.C t j=0
section
variable{p:a8}{M M':Ms}
def tS.C(h:tS M){t}{f}(i:∀j,9<=j->f j=0):tS (qj M t f):=fun u j g=>by
 show P M.C t f u j=0;by_cases e:u=t
 .subst e;rw[bc]
  grind
 rw[bf _ _ e];exact h u j g
def Nv{x}(a:ol x){f}(b:∀j,9<=j->f j=0)(v)(j)(c:9<=j):sJ x f v j=0:=by
 have:=a.dst;unfold sJ;rw[bf _ _ (by omega),bf _ _ (by omega)]
 grind
def agR{x}(a:ol x){f}(b:∀j,9<=j->f j=0)(j)(c:9<=j):l9 x f j=0:=by
 have:=a.dst;unfold l9;split
 .rw[bf _ _ (by omega),bf _ _ (by omega)]
  grind
 split
 .rw[bf _ _ (by omega)]
  grind
 split
 .rw[bf _ _ (by omega)]
  grind
 grind
def tS.exec(h:tS M){t}{i}(g:ol i):tS (iX M t i):=by
 unfold iX;split
 .exact h.C fun j f=>Nv g (h t) _ j f
 split
 .exact h.C fun j f=>by rw[bf _ _ (by omega)];exact h t j f
 split
 .exact h.C fun j f=>agR g (h t) j f
 exact h.C fun j f=>Nv g (h t) _ j f
def gA.Ua(f:cO p)(h:gA p M):tS M:=by
 induction h with
 |start=>exact fun _ _ _=>rfl
 |@step M x h r g=>
  have⟨_,o⟩:=(tX p f.iE M x).1 r;unfold fZ;split
  .exact g
  rename_i u;rw[O u]at o;have⟨i,e,_⟩:=DL o.2;rw[e];exact g.exec (Bd f e).ok
def ZB{b c:Bf}(a:b.length=c)(h:∀j,j<2*b.length->ir b j=ir c j):b=c:=by
 refine List.ext_getElem a fun i f g=>?_;have e:=h (2*i) (by omega);have e1:=h (2*i+1) (by omega);unfold ir at e e1
 grind
def dW.Rp(g:cO p)(h:dW p M)(t):(M.I t).length<=12:=by
 have:=h.len t;obtain f|f:=qN t p.h.length
 .have:=h.pc t _ (aI f);have:=g.len _ (oM f);omega
 rw[(h.off t f).2];simp
def U6(b:cO p)(h:dW p M)(n:tS M)(c:dW p M')(o:tS M')(e:∀i,i<142->aB M i=aB M' i):M=M':=by
 have:=b.iE;have:M.C=M'.C:=by
  funext t j;by_cases a:t<4
  .by_cases g:j<9
   .have:=e (9*t+j) (by omega);rwa[nA M a g,nA M' a g]at this
   rw[n t j (by omega),o t j (by omega)]
  rw[(h.off t (by omega)).1,(c.off t (by omega)).1]
 have:M.mem=M'.mem:=by
  funext l;by_cases f:l<6
  .have:=e (36+l) (by omega);rwa[ox M f,ox M' f]at this
  have:=b.iG;rw[h.mem l (by omega),c.mem l (by omega)]
 have:M.I=M'.I:=by
  funext t;by_cases a:t<4
  .have:=h.Rp b t;have:=c.Rp b t;have m:=e (138+t) (by omega);rw[oS M a,oS M' a]at m;have f:(M.I t)=(M'.I t).length:=by
    have:=cg UInt8.toNat m;simp only[pw]at this;omega
   exact ZB f fun j g=>by have:=e (42+24*t+j) (by omega);rwa[mD M a (by omega),mD M' a (by omega)]at this
  rw[(h.off t (by omega)).2,(c.off t (by omega)).2]
 cases M;simp_all
end
def gu(p:a8)(L:List Ms)(k:Nat):List Nat:=(List.range k).filter fun i=>(di p (L.getD i (iO p))).isEmpty
structure j4(p:a8)(L:List Ms)(k j:Nat):Prop where
 zO:∀M∈L,gA p M
 start:L[0]? =some (iO p)
 done:∀i,i<k->∀M,L[i]? =some M->∀x∈di p M,fZ p M x∈L
 now:∀M,L[k]? =some M->∀x∈(di p M).take j,fZ p M x∈L
def j4.begin(p):j4 p [iO p] 0 0:=
 ⟨fun M h=>by obtain rfl:=lh.1 h;exact .start,rfl,fun i hi=>absurd hi (by omega),fun M _ x f=>by grind⟩
section
variable{p:a8}{L:List Ms}{k j:Nat}{M:Ms}{x:Ps}
def j4.y6(h:j4 p L k j)(g:L[k]? =M)(i:(di p M)[j]? =x)(r:fZ p M x∈L):j4 p L k (j+1):=
 ⟨h.zO,h.start,h.done,fun M' o y f=>by
   obtain rfl:=aR (o.s.t g);rw[jd,i,mg]at f;obtain f|f:=f
   .exact h.now _ g y f
   grind⟩
def j4.more(h:j4 p L k j)(r:L[k]? =M)(u:(di p M)[j]? =x):j4 p (L++[fZ p M x]) k (j+1):=by
 have w:=(bL.1 r).1;have A:j4 p (L++[fZ p M x]) k j:=by
  refine⟨fun M' f=>?_,?_,fun i hi M' g y o=>?_,fun M' g y o=>?_⟩
  .obtain f|f:=mg.1 f
   .exact h.zO _ f
   obtain rfl:=lh.1 f;exact .step (h.zO _ (cB r)) (cB u)
  .rw[lE (by omega)];exact h.start
  .rw[lE (by omega)]at g;exact rP _ (h.done i hi M' g y o)
  rw[lE w]at g;exact rP _ (h.now M' g y o)
 exact A.y6 (by grind) u (by simp)
def j4.next(h:j4 p L k j)(g:L[k]? =M)(r:(di p M)<=j):j4 p L (k+1) 0:=
 ⟨h.zO,h.start,fun i hi M' o y f=>by
   by_cases e:i<k
   .exact h.done i e M' o y f
   .obtain rfl:i=k:=by omega
    obtain rfl:=aR (o.s.t g);exact h.now _ g y (by rwa[sl r]),fun M' _ y f=>by simp at f⟩
def j4.all(h:j4 p L L 0)(f:gA p M):M∈L:=by
 induction f with
 |start=>exact cB h.start
 |@step M x _ g o=>
  have⟨i,hi,e⟩:=iD o;exact h.done i hi M (by grind) x g
def j4.Zv(h:j4 p L L 0)(f):f∈(gu p L L).map (fun i=>ku (aB (L.getD i (iO p))))↔∃M,gA p M/\di p M=[]/\f=ku (aB M):=by
 unfold gu;simp only[bX,nE,fS,List.isEmpty_iff];constructor
 .rintro⟨i,⟨hi,g⟩,rfl⟩;refine⟨_,h.zO _ ?_,g,rfl⟩
  grind
 rintro⟨M,o,g,rfl⟩;have⟨i,hi,e⟩:=iD (h.all o);have:L.getD i (iO p)=M:=by grind
 exact⟨i,⟨hi,by rw[this];exact g⟩,by rw[this]⟩
def OU(a:L[k]? =M):gu p L (k+1)=gu p L k++(if di p M=[]then [k]else []):=by
 unfold gu;rw[jh,oh,LK,List.filter_nil,show L.getD k (iO p)=M by grind]
 grind
def YR{L'}(a:k<=L):gu p (L++L') k=gu p L k:=by
 refine MN fun i b=>?_
 grind
end
end
def O1:∀(b:Bf)(e),kA (b++[e])=if b.getLast?.map (·.1)=e.1 then kA b else kA b++[e.1]
 |[],e=>by simp[kA]
 |[a],e=>by
  simp only[iJ,gG,kA,Qk,FZ,Hu]
  grind
 |a::c::l,e=>by
  have f:=O1 (c::l) e;simp only[iJ,kA]at f⊢
  grind
def ND:∀b,(kA b).getLast?=b.getLast?.map (·.1)
 |[]=>rfl
 |[a]=>rfl
 |a::c::l=>by
  have:=ND (c::l);unfold kA
  grind
def Ia:∀b,(kA b)<=b.length
 |[]=>av _
 |[a]=>av _
 |a::c::l=>by
  have:=Ia (c::l);unfold kA
  grind
def ig(x:Ps)(i:Nat):Value:=if i=0 then .int .u8 (Y x.t)else if i=1 then .bool x.d else .int .u8 (Y x.l)
def gU(x:Ps):Array Value:=#[.int .u8 (Y x.t),.bool x.d,.int .u8 (Y x.l)]
def jy(l:List Ps):List Value:=l.flatMap fun x=>(gU x).toList
def KT(l)(x):jy (l++[x])=jy l++(gU x).toList:=by unfold jy;rw[oI];simp
def xC(x):gU x=J 3 (ig x):=rfl
def agG{l}{k}{x:Ps}(h:l[k]? =x)(j)(b:j<3):(jy l)[k*3+j]? =(ig x j):=by
 induction l generalizing k with
 |nil=>cases h
 |cons y l a=>
  unfold jy;rw[uz];cases k with
  |zero=>
   obtain rfl:y=x:=by grind
   obtain _|_|_|j:=j
   .rfl
   .rfl
   .rfl
   omega
  |succ k=>
   rw[kB (by show 3<=_;omega),show(k+1)*3+j-(gU y).toList.length=k*3+j by show _-3=_;omega];exact a h
def BD{P:Program}{ops}{Q}{rest}{a}{w:World}{d1}{d2}{t tp1 tp2}{x s}{ps1 ps2}{af1 af2}{e}{z:Value}{n bytes}
 (l:(P.info? e).map (fun i=>(i.zero,i.size,i.bytes))=(some z,n,bytes))(g:P.underlying t=some (.slice e))(m:z.cells.size=n)(q:0<n)(c:n<=2^24){base k}{v}{xs}(r:w.ownsRow base e n v k xs){G}(y:G.size=n)(A:∀u∈G.toList,u.oneCell'=true)
 (C:k+1<=maxLen)(E:(k+1)*bytes<=140737488355328)(M:base<=w)(F:a.eval x= .agg G)(H:(a.put (some d1) (.slice w 1 1)).eval s=v)(I:(a.put (some d1) (.slice w 1 1)).eval (.tmp d1)= .slice w 1 1)
 (h:∀c f,f.ownsRow base e n c (k+1) (xs++G.toList)->w.grownBy f v.ownBlock->(∀b,c.ownBlock=some b->v.ownBlock=some b\/w.1.size<=b)->wpList P ops Q rest ((a.put (some d1) (.slice w 1 1)).put d2 c) f):
 wpList P ops Q (Oper.mk (some d1) (.buildSlice t 1 #[(0,x)]) tp1 ps1 af1 none::Oper.mk d2 (.call {callee:= .builtin .append,args:=#[s,.tmp d1],argTypes:=#[t,t]}) tp2 ps2 af2 none::rest) a w:=by
 have⟨o,l,p,J,L⟩:=eQ l;refine Kx rfl t x rfl e G o z F g l p (by omega) (by omega) (by omega) ?_;refine DQ _ rfl s (.tmp d1) t rfl base e o z n bytes g l p J L m q v k xs H (r.alloc _) w 1 1 G.toList I (by simp[y]) (fun j u g=>by
  rw[eV,cK,lN _ _ j _ _ _ (jZ w (.cells G e))]
  grind) A C E (by simp;omega) ?_
 intro c f q g r;refine h c f q ⟨g.os,g.tape,g.output,aO (by simp) g.size,fun b m y=>?_⟩ (fun b m=>(r b m).imp id (fun c=>aO (by simp) c));rw[g.block b (by simp;omega) y];exact fF _ _ _ m
def nD:prog.underlying 111=some (.struct (prog.fieldsOf 111)):=by kernel_rfl
def ll:(prog.info? 111).map (·.size)=some 3:=by kernel_rfl
def J6:prog.underlying 112=some (.slice 111):=by kernel_rfl
def Im:(prog.info? 111).map (fun i=>(i.zero,i.size,i.bytes))=some (some (.agg #[.int .u8 0,.bool false,.int .u8 0]),3,3):=by kernel_rfl
def TT(x)(i):(ig x i).oneCell'=true:=by
 unfold ig;split
 .rfl
 split<;>rfl
def MH(x):∀u∈(gU x).toList,u.oneCell'=true:=by intro u a;simp[gU]at a;obtain rfl|rfl|rfl:=a<;>rfl
def NU(x y)(w):(binOp .eql 111 (.agg (gU x)) (.agg (gU y))).run prog w= .ok (.bool (decide (x=y))) w/\(binOp .neq 111 (.agg (gU x)) (.agg (gU y))).run prog w= .ok (.bool !decide (x=y)) w:=by
 have e:=fun z:Ps=>(show Fl.dU [some .u8,none,some .u8] (gU z).toList=some [.int .u8 (Y z.t),.bool z.d,.int .u8 (Y z.l)]from by
  simp only[gU,Fl.dU,xn,show Fl.qQ none (.bool z.d)=some (.bool z.d)from rfl])
 have⟨b,f,g,i⟩:=Fl.zh (P:=prog) w (t:=111) (ks:=[some .u8,none,some .u8]) (d:=5) (m:=5) (xs:=gU x) (ys:=gU y) (by kernel_rfl) (by kernel_rfl) (dr rfl) (by kernel_rfl) (by kernel_rfl) (e x) (e y);have:gU x=gU y↔x=y:=by
  constructor
  .intro h;simp only[gU,Array.mk.injEq,L6,Value.int.injEq,Value.bool.injEq,zN,BZ]at h;obtain⟨a,b,c⟩:=h;cases x;simp only at a b c;rw[lQ.1 a,b,lQ.1 c]
  grind
 grind
section
attribute [local irreducible] Code.wp wpList Oper.wp wpQuiet
attribute [local go_sem] AL AK BN Bk y7 zU BP zR zQ zC rj kf uq
def F8{P:Program}{ops}{Q}{rest}{a}{w}{d}{ty tp}{x}{ps}{af}{b o}{L:List Value}{G}(e:w.rangeAt b o L)(f:G=L.toArray){c:TypeDesc}(g:P.underlying ty=c)(i:c.isRow=true)(j:(P.info? ty).map (·.size)=L)(l:a.eval x= .pointer (some ⟨b,o,none⟩))
 (h:wpList P ops Q rest (a.put d G) w):wpList P ops Q (Oper.mk d (.load ty x) tp ps af none::rest) a w:=by
 subst f;exact iI rfl ty x rfl b o l L c e g i j h
def eO.nT{w}{c}{x}{G}(f:G=aV x)(h:aj w c 36 10 (fun i=>G[i]!)):eO w c x:=by
 unfold eO;rw[h,show(J 10 fun i=>G[i]!)=G from(by rw[f];exact(uR (aV x)).s),f]
def VH(x){G}(a:G=aV x):∀i,i<10->(G[i]!).oneCell'=true:=by
 subst a;intro i b;obtain _|_|_|_|_|_|_|_|_|_|i:=i
 all_goals first|rfl|omega
def Y8{p}{M}{t}(h:nU p M t=none):mX p M t=false:=by unfold mX;rw[h]
def Xa{p}{M}{t}{x:Ins}(h:nU p M t=x):mX p M t=if x.op=4\/x.op=5\/x.op=6\/x.op=7/\(x.mode=3\/x.mode=5)then(M.I t).isEmpty else true:=by unfold mX;rw[h]
def aeu(p:a8)(g:Nat->Value)(M:Ms)(t:Nat)(w:World)(ab:eE w g p)(r:cO p)(aj:dW p M)(aw:t<p.h):
 Calls prog 140 #[.agg (J 10 g),.int .u8 3,.agg (J 142 (X (aB M))),.int .i64 t] w (Rs (.bool (mX p M t)) w):=by
 have aJ:=Bu;have:=r.iE;have aK:=aj.Bh r t;have aL:=zB r t;have ax:t<4:=by omega
 have⟨aW,F⟩:=eX (J 10 g);have⟨aX,I⟩:=eX (J 142 (X (aB M)));have⟨ay,ad⟩:=eX (aV ⟨0,0,0,⟨false,0⟩,⟨false,0⟩,0,0,0⟩);rw[<-ad]at aJ;have ak:ay.size=10:=by rw[ad];rfl
 have:¬ay=#[]:=by intro e;rw[e]at ak;cases ak
 have⟨N,ae,s,af,P,az⟩:=si w 29 80 F I;rw[<-F,<-I];have:=bT F (dr rfl);have:=bT I (dr rfl);have⟨T,aM,Q,al⟩:=DS ab;obtain⟨am,an,A,aN,rfl,aO,ag⟩:=al t aw;have⟨n,ao⟩:=eX p.h.length;rw[<-ao]at Q aw;have aP:N.cell? ⟨w,3,none⟩=some (.slice (some ⟨am,an,none⟩) n aM):=(af.C 3 (dr rfl)).t (by rw[Q]);have aC:=Kz P ax;have ap:=AY P ax (by omega);have aD:N.cell? ⟨am,an+t,none⟩=some (.slice A (bH p t) aN):=(s.C (p:=⟨am,an+t,none⟩) aO).t ag;have⟨ar,W⟩:=eX (bH p t);rw[<-W]at aD aL;have⟨z,h⟩:=eX (Y (M.C t 0));rw[<-h]at aC;have:0<=z:=by rw[h];exact iW _
 have:z<256:=by rw[h];exact pC _
 have:IntKind.i64.wrap z=z:=gw _ (by omega);have⟨L,ah⟩:=eX (M.I t).length;rw[<-ah]at aK ap;have:(t:Int)<4:=by omega
 have:¬(4:Int)<=t:=by omega
 have:¬(t:Int)<0:=by omega
 have:(t:Int)<n:=by omega
 have:¬(n:Int)<=t:=by omega
 have⟨R,a⟩:=eX (mX p M t);rw[<-a];by_cases aa:z<ar
 .obtain⟨x,o⟩:∃x,nU p M t=some x:=by
   refine⟨_,aI (l:=bH p t) ?_⟩;rw[<-W];rw[h]at aa;unfold Y at aa;omega
  have C:=Bd r o;have⟨aY,aZ,a0,aE,co,a1,v,aG,y,aQ,E⟩:=Ic ab (yR o).2.2;rw[Q]at v;injection v with v _ _;injection v with v;injection v with aR aS;subst aR aS;rw[ag]at y;injection y with y;injection y with y _ _;subst y;rw[Xa o]at a;have m:N.rangeAt aE (co+(M.C t 0).toNat*10) (aV x).toList:=fun j u aT=>(s.C (p:=⟨aE,co+(M.C t 0).toNat*10+j,none⟩) aQ).t (E j u aT);have⟨au,q⟩:=eX (M.C t 0).toNat;rw[<-q]at m;have aU:z=(au:Int):=by rw[h,q];rfl
  have⟨ai,f⟩:=eX (aV x);have av:ai=J 10 fun i=>ai[i]!:=by rw[f];exact uR (aV x)
  have aF:(M.I t).isEmpty=decide (L=0):=by rw[ah];cases M.I t<;>simp
  rw[aF]at a;have b:=pn s af P m (show ai=(aV x).toList.toArray by rw[f]) av ak C f ae;have c:=H a;clear s af P m av f C ae a h q aF E o ab r aj al ag W ah F I ad aG Q ao az;subst aU;have a2:¬(ar:Int)<=au:=by omega
  have:¬(au:Int)<0:=by omega
  go_enter func140,ntmps140
  go_upto_region 1 with fail
  rw[<-b.J]
  go_upto_region 5 with(first|(refine F8 b.d b.e mr rfl kz rfl ?_)|(refine mh (fun i=>ai[i]!) b.f b.g kz (VH x b.i) rfl rfl ?_;intro f aF m))
  have q:=(eO.nT b.i aF)
  have ap:f.cell? ⟨w+1,138+t,none⟩=some (.int .u8 (L:Int)):=(m.C (p:=⟨w+1,138+t,none⟩) b.c.lt).t ap;have C:=H (b.a.t (m.m b.a.size));have aG:=H (iY b.h.ok.qf b.h.ok.iY);have⟨aH,E⟩:=eX x.op;have⟨md,av⟩:=eX x.mode;rw[<-E]at aG c;rw[<-av]at c;have:f.cell? N=some aH:=by rw[q.C 0,E];rfl
  have:f.cell? ⟨N,8,none⟩=some md:=by rw[q.C 8,av];rfl
  clear aF m q aC aP aD E av;have E:∀av:Bool,R=av->Ending.returned av=R:=fun av e=>by rw[e]
  obtain e|e|e|e|e|e:=aG.y
  case inr.inr.inl=>
   have a:=c.y;rw[aq (by obtain e|e|e:=e<;>simp[e])]at a;by_cases q:L=0
   .subst q;have f:=H a;clear a c;obtain e|e|e:=e
    all_goals
     have:=show Y aH=_ from cg Y e;subst e;go_wp2;go_ret;exact⟨E _ (by rw[f.y];rfl),C.y⟩
   have aC:¬(L:Int)=0:=by omega
   have f:=H (show R=false by rw[a];simp[q]);clear a c q;obtain e|e|e:=e
   all_goals
    subst e;go_wp2;go_ret;exact⟨E _ (by rw[f.y];symm;simp;omega),C.y⟩
  case inr.inr.inr.inl=>
   subst e;by_cases m:md=3\/md=5
   .have a:=c.y;rw[aq (by simp[m])]at a;by_cases q:L=0
    .subst q;have f:=H a;clear a c;obtain e|e:=m
     all_goals
      subst e;go_wp2;go_ret;exact⟨E _ (by rw[f.y];rfl),C.y⟩
    have:¬(L:Int)=0:=by omega
    have f:=H (show R=false by rw[a];simp[q]);clear a c q;obtain e|e:=m
    all_goals
     subst e;go_wp2;go_ret;exact⟨E _ (by rw[f.y];symm;simp;omega),C.y⟩
   have a:=c.y;rw[O (by simp;exact⟨fun e=>m (.inl e),fun e=>m (.inr e)⟩)]at a;have:(Y md==3)=false:=by rw[show(3:Int)=Y 3 from rfl,kf];simp;exact fun e=>m (.inl e)
   have:(Y md==5)=false:=by rw[show(5:Int)=Y 5 from rfl,kf];simp;exact fun e=>m (.inr e)
   have f:=H a;clear a c m;go_wp2;go_ret;exact⟨E _ f.y,C.y⟩
  all_goals
   have a:=c.y;rw[O (by simp[e])]at a;have f:=H a;clear a c;subst e;go_wp2;go_ret;exact⟨E _ f.y,C.y⟩
 have o:nU p M t=none:=by
  unfold nU;refine od ?_;show(bH p t).length<=_;rw[<-W];rw[h]at aa;unfold Y at aa;omega
 rw[Y8 o]at a;subst a;have:(ar:Int)<=z:=by omega
 have b:=aA s ae;clear s af P ae h o ab r aj al ag W ah F I ad Q ao az aa;go_enter func140,ntmps140
 go_upto_region 1 with fail
 rw[<-b.B];go_wp2;go_ret;exact⟨rfl,b.a⟩
end
section
attribute [local irreducible] Code.wp wpList Oper.wp wpQuiet
def TS(p)(M)(k):rc p M (k+1)=rc p M k++xL p M k:=by unfold rc;rw[jh,oI];simp
def X1(p)(M)(t)(h:(M.I t).length<=12):(xL p M t).length<=13:=by
 unfold xL;have:=Ia (M.I t)
 grind
def KJ(p)(M)(h:∀t,(M.I t).length<=12):∀k,(rc p M k)<=k*13
 |0=>by simp[rc]
 |k+1=>by rw[TS,dc];have:=KJ p M h k;have:=X1 p M k (h k);omega
def oz(p:a8)(M:Ms)(t i:Nat):List Ps:=(if mX p M t then [⟨UInt8.ofNat t,false,0⟩]else [])++(kA ((M.I t).take i)).map fun l=>⟨UInt8.ofNat t,true,l⟩
def agd(p)(M)(t i)(h:(M.I t).length<=12):(oz p M t i).length<=13:=by
 unfold oz;have:=Ia ((M.I t).take i)
 grind
def agj(p)(M)(t):oz p M t (M.I t)=xL p M t:=by unfold oz xL;rw[nH]
def aeC(p)(M)(t):oz p M t 0=if mX p M t then [⟨UInt8.ofNat t,false,0⟩]else []:=by unfold oz;simp[kA]
def acE{b:Bf}{i:Nat}(h:i<b):(b.take (i+1)).getLast?=some (b.getD i (0,0)):=by
 grind
def It(p)(M)(t i)(h:i<(M.I t)):oz p M t (i+1)=if i=0\/((M.I t).getD i (0,0)).1≠((M.I t).getD (i-1) (0,0)).1 then oz p M t i++[⟨UInt8.ofNat t,true,((M.I t).getD i (0,0)).1⟩]else oz p M t i:=by
 have e:(M.I t).take (i+1)=(M.I t).take i++[(M.I t).getD i (0,0)]:=by simp_all
 unfold oz;rw[e,O1]
 grind
def Wo(p)(M)(t i)(h:i<(M.I t))(L):(L++oz p M t (i+1)).getLast?=some ⟨UInt8.ofNat t,true,((M.I t).getD i (0,0)).1⟩:=by
 unfold oz;rw[CH,CH,JZ,ND,acE h];rfl
def Ee{W:World}{base}{v}{l:List Ps}(h:W.ownsRow base 111 3 v l (jy l)):∃A c,v= .slice A l c/\(0<l.length->∃b,A=some ⟨b,0,none⟩/\base<=b/\b<W.1.size/\∀k x,l[k]? =some x->W.rangeAt b (k*3) (gU x).toList):=by
 have⟨A,c,e⟩:=bo h (dr rfl);refine⟨A,c,e,fun p=>?_⟩;obtain⟨_,a⟩|⟨g,q,r,a,i,m,_⟩:=h.2
 .omega
 rw[e]at a;injection a with a _ _;subst a;refine⟨g,rfl,i,(gS.1 m).1,fun k x n j u f=>?_⟩;have o:j<3:=(bL.1 f).1;have:=h.cells (g:=g) (by rw[e];rfl) (k*3+j) (ig x j) (agG n j o);rw[eV,cK]at this;rw[this,<-f];obtain _|_|_|j:=j
 .rfl
 .rfl
 .rfl
 omega
def aev(z)(w):(Instr.build 111 #[(0,.int .u8 z)]).run prog w= .ok (.agg #[.int .u8 z,.bool false,.int .u8 0]) w:=by kernel_rfl
def Pn(w):(zeroValue 111).run prog w= .ok (.agg #[.int .u8 0,.bool false,.int .u8 0]) w:=by kernel_rfl
def aes:(prog.info? 4).map (·.size)=some 1:=by kernel_rfl
def adb(p:a8)(g:Nat->Value)(M:Ms)(w:World)(x:eE w g p)(r:cO p)(y:dW p M):
 Calls prog 85 #[.agg (J 10 g),.int .u8 3,.agg (J 142 (X (aB M)))] w fun e aO=>∃v,e= .returned v/\aO.ownsRow w.1.size 111 3 v (di p M).length (jy (di p M))/\Below w w aO:=by
 have a6:=Pn;have a7:=r.iE;have z:=y.Bh r;have⟨a9,f⟩:=eX (J 10 g);have⟨bb,m⟩:=eX (J 142 (X (aB M)));have⟨aS,E⟩:=eX (#[.int .u8 0,.bool false,.int .u8 0]:Array Value);rw[<-E]at a6;have s:aS.size=3:=by rw[E];rfl
 have:¬aS=#[]:=by intro e;rw[e]at s;cases s
 have⟨C,P,Q,F,R,ad⟩:=si w 29 80 f m;have a:∀t W,t<p.h.length->Below w w W->Calls prog 140 #[.agg a9,.int .u8 3,.agg bb,.int .i64 t] W (Rs (.bool (mX p M t)) W):=fun t W bc bd=>by
  rw[f,m];exact aeu p g M t W (x.Z bd (av _)) r y bc
 have aa:=KJ p M z;rw[<-f,<-m];have:=bT f (dr rfl);have:=bT m (dr rfl);have⟨T,be,I,ae⟩:=DS x;have⟨n,N⟩:=eX p.h.length;rw[<-N]at I a7 a;have af:C.cell? ⟨w.1.size,3,none⟩=some (.slice T n be):=(F.C 3 (dr rfl)).t (by rw[I]);have ab:di p M=rc p M n:=by rw[N];rfl
 rw[ab];have c:=pn Q F R a aa z (cD f) (cD m) s P;clear Q F R a aa z s P x r y ae f m E ad I N ab;go_enter func85,ntmps85
 go_upto_region 1 with fail
 rw[<-c.J]
 go_wp2_with fail
 clear af
 go_loopw [7,14] (fun v i wr=>∃k:Nat,k<=n/\i= .int .i64 k/\wr.ownsRow C.1.size 111 3 v (rc p M k).length (jy (rc p M k))/\Below C C wr) (fun _ i _=>n-(intOf i).toNat)
 case atStart=>exact⟨0,aQ _,rfl,gI _ _ _ _,aP _ _⟩
 obtain⟨k,bK,rfl,m,f⟩:=hrel;have⟨bf,bg,z⟩:=bo m (dr rfl);subst z;have⟨F,r⟩:=eX wr;rw[<-r]at m f⊢;clear r;by_cases bh:k<n
 .have bL:(k:Int)<n:=by omega
  have aT:k<4:=by omega
  have:(k:Int)<4:=by omega
  have:¬(k:Int)<0:=by omega
  have:¬(4:Int)<=k:=by omega
  have:IntKind.u8.wrap (k:Int)=k:=FL _ (by omega);have⟨u,s⟩:=eX (UInt8.ofNat k);have y:(k:Int)=Y u:=by rw[s,qD k (by omega)]
  have⟨aE,r⟩:=eX (gU ⟨u,false,0⟩);have E:(Instr.build 111 #[(0,.int .u8 (k:Int))]).run prog F= .ok (.agg aE) F:=by rw[r,aev,y];rfl
  have I:=bM m f (r.t (xC _)) E r;have bi:=c.e k;have⟨R,x⟩:=eX (rc p M k);rw[<-x]at bi⊢;have aF:=f.size;have ai:=aA s x;clear m f E r s y x
  go_upto_region 6 with(first|(refine uj [(0,.int .u8 (k:Int))] _ I.d rfl ?_)|(refine mh (ig ⟨u,false,0⟩) I.c c.i ll (fun i _=>TT _ _) rfl rfl ?_;intro E s x))
  have r:=I.b.t (x.m aF);have y:=bP I.a x;rw[<-ai.B]at y;have N:=dH s r y (c.b.Z r c.b.lt) (c.c.Z r c.c.lt) (c.a.t (r.m c.a.size)) (show∀b,(Value.slice bf R.length bg).ownBlock=some b->b≠F.1.size from fun b e=>by rw[ai.B]at e;exact xp (I.a.lt b e).2);have bj:F.1.size<E.1.size:=s.lt;clear s x r y;have bl:=fun i=>agd p M k i (c.f k)
  go_upto_if 24 with(first|(refine br 0 10 N.d c.g (dr rfl) fN rfl gC rfl ?_)|(refine br 0 142 N.e c.h (dr rfl) dN rfl cQ rfl ?_)|(go_at_call 140;refine(c.d k _ bh N.f).st fun bm s=>?_))
  have⟨bn,a⟩:=eX (mX p M k);rw[<-a];have x:=aeC p M k;rw[<-a,<-ai.a]at x;have y:=N.b.t (s.m N.b.size);have r:=dH (N.a.Z s N.a.lt) y (bP N.c s) x ai.a ai.B N.G;have aU:=y.size;have:F.1.size<bm.1.size:=aW bj s.size;clear s y x a
  go_cut [7] (fun s a=>(∃x,x=R++oz p M k 0/\a.ownsRow C.1.size 111 3 s x.length (jy x))/\Below C C a/\aj a F.1.size 111 3 (ig ⟨u,false,0⟩)/\∀b,s.ownBlock=some b->b≠F.1.size)
  case first=>
   cases bn
   .go_wp2
    go_meet
    refine⟨⟨R,?_,r.c⟩,r.b,r.a,r.G⟩;rw[r.d];simp
   go_wp2_with (first|(refine br 0 3 r.a (G:=aE) (cD I.c) (dr rfl) nD rfl ll rfl ?_)|((with_reducible refine xw _ _ _ ?_);refine BD Im J6 rfl (dr rfl) (dr rfl) r.c (G:=aE) (by rw[I.c,dF]) (by rw[I.E];exact MH _) (by unfold maxLen;omega) (by omega) aU rfl rfl rfl ?_;intro E P a s y))
   go_meet
   refine⟨⟨R++[⟨u,false,0⟩],?_,?_⟩,r.b.b s aU (fun b e=>(r.c.lt b e).1),r.a.K s (fun e=>r.G _ e.s rfl),fun b e=>?_⟩
   .rw[r.d];simp
   .rw[dc,qz,KT];rw[I.E]at a;exact a
   obtain h|h:=y b e
   .exact r.G b h
   omega
  obtain⟨⟨aV,s,m⟩,f,aa,af⟩:=hcut;have bp:=H s;clear s;have⟨bq,bs,z⟩:=bo m (dr rfl);subst z;have ab:=bM m f aa af (c.c.Z f c.c.lt);clear m f aa af
  go_upto_region 9 with(refine kI 1 (.bool true) (ig ⟨u,true,0⟩) ab.c (dr rfl) aes rfl (fun i E=>by obtain _|_|_|i:=i<;>first|rfl|omega) rfl rfl ?_;intro a Q s)
  have ad:Below C C a:=ab.b.b s ab.b.size (fun b e=>by cases e;omega);have ae:=ab.a.K s (by cases z:(Value.slice bq aV.length bs).ownBlock with
   |none=>exact .inl rfl
   |some b=>exact .inr (fun e=>ab.d b z (aR e)))
  have a:=ab.E.K s (by intro e;injection e with e;have:=c.c.lt;omega);have⟨L,y⟩:=eX (M.I k).length;have bt:=c.f k;rw[<-y]at bt;have ag:=AY a aT (by omega);rw[<-y]at ag;have:IntKind.i64.wrap ((L:Nat):Int)=L:=gw _ (by omega);have P:=dC Q ad ae a y ab.d;clear Q s ad ae a y
  go_wp2_with fail
  clear ag
  go_loopw [7,35] (fun v j wr=>∃i:Nat,i<=L/\j= .int .i64 i/\(∃x,x=R++oz p M k i/\wr.ownsRow C.1.size 111 3 v x.length (jy x))/\Below C C wr/\(∃l,(∀q,i=q+1->l=((M.I k).getD q (0,0)).1)/\aj wr F.1.size 111 3 (ig ⟨u,true,l⟩))/\∀b,v.ownBlock=some b->b≠F.1.size) (fun _ j _=>L-(intOf j).toNat)
  case atStart=>exact⟨0,aQ _,rfl,⟨aV,bp.y,P.c⟩,P.b,⟨0,fun q ak=>by omega,P.a⟩,P.F⟩
  obtain⟨i,E,rfl,⟨x,s,m⟩,f,⟨l,aG,aa⟩,af⟩:=hrel;have⟨bu,bv,z⟩:=bo m (dr rfl);subst z;have⟨bN,y⟩:=eX wr;rw[<-y]at m f aa⊢;clear y;have bw:x.length<=R.length+13:=by rw[s,dc];have:=bl i;omega
  have al:=H s;clear s;by_cases Q:i<L
  .have bO:(i:Int)<L:=by omega
   have:(i:Int)<12:=by omega
   have:¬(i:Int)<0:=by omega
   have:¬(12:Int)<=i:=by omega
   have a:=c.c.Z f c.c.lt;have⟨e,y⟩:=eX ((M.I k).getD i (0,0));have⟨am,ad⟩:=eX (gU ⟨u,true,e.1⟩);have ao:=DU a aT (i:=i) (by omega);rw[<-y]at ao;have ag:=bM m f aa af aG;have s:=aA ad y;have ah:=H Q;have aF:=f.size;clear m f aa af aG a ad y Q
   go_upto_region 14 with(refine kI 2 (.int .u8 (Y e.1)) (ig ⟨u,true,e.1⟩) ag.c (dr rfl) nP rfl (fun i E=>by obtain _|_|_|i:=i<;>first|rfl|omega) rfl rfl ?_;intro ae ax ay)
   have az:Below C C ae:=ag.b.b ay aF (fun b e=>by cases e;omega);have an:=ag.a.K ay (by cases z:(Value.slice bu x.length bv).ownBlock with
    |none=>exact .inl rfl
    |some b=>exact .inr (fun e=>ag.d b z (aR e)))
   clear ao;obtain _|j:=i
   .have y:=aD ax an az;clear ax an az ay;refine bV (by kernel_rfl) ?_
    repeat(first|go_big_quiet_step (fail)|quiet_step (fail))
    refine qn fun bx Q=>?_;have a:=aY (y.a.Z Q y.a.lt) (bP y.b Q) (y.C.t (Q.m y.C.size)) ag.d;clear Q
    go_wp2_with (first|(refine br 0 3 a.a (G:=am) (cD (s.a.t (xC _))) (dr rfl) nD rfl ll rfl ?_)|((with_reducible refine xw _ _ _ ?_);refine BD Im J6 rfl (dr rfl) (dr rfl) a.b (G:=am) (by rw[s.a];rfl) (by rw[s.a];exact MH _) (by unfold maxLen;omega) (by omega) a.c.size rfl rfl rfl ?_;intro bz w9 ao ap aH))
    refine⟨⟨0+1,by omega,by go_num,⟨x++[⟨u,true,e.1⟩],?_,?_⟩,a.c.b ap a.c.size (fun b e=>(a.b.lt b e).1),⟨e.1,fun q ak=>by rw[show q=0 by omega,<-s.B],a.a.K ap (fun e=>a.D _ e.s rfl)⟩,fun b e=>?_⟩,by simp[intOf];try omega⟩
    .rw[It p M k 0 (by rw[<-P.e];exact ah.y),aq (.inl rfl),<-r.e,<-s.B,<-kZ,<-al.y]
    .rw[dc,qz,KT];rw[s.a]at ao;exact ao
    obtain h|h:=aH b e
    .exact a.D b h
    have:=a.a.lt;omega
   have⟨A,bQ,z,aI⟩:=Ee an;injection z with z _ bF;subst z bF;have ar:=Wo p M k j (by rw[<-P.e];have:=ah.y;omega) R;rw[<-al.y]at ar;have⟨ad,au⟩:=eX x.length;have bG:0<ad:=by rw[au];cases ak:x with
    |nil=>rw[ak]at ar;cases ar
    |cons=>simp
   rw[<-au]at bw aI⊢;obtain⟨E,aX⟩:∃E,ad=E+1:=⟨ad-1,by omega⟩
   obtain⟨aJ,rfl,bS,bH,aZ⟩:=aI (by omega);have a0:x[E]? =some ⟨UInt8.ofNat k,true,((M.I k).getD j (0,0)).1⟩:=by
    rw[<-ar,List.getLast?_eq_getElem?,<-au,aX];rfl
   have aC:=aZ E _ a0;rw[<-r.e]at aC;have⟨aK,aL⟩:=eX ((M.I k).getD j (0,0)).1;rw[<-aL]at aC;have⟨a1,aM⟩:=eX (gU ⟨u,true,aK⟩);have⟨a2,aN⟩:=eX (!decide (e.1=aK));have:∀W,(binOp .neq 111 (.agg am) (.agg a1)).run prog W= .ok (.bool a2) W:=fun W=>by
    rw[s.a,aM,(NU _ _ W).2,aN];simp
   have a3:∀W',(∃q:Regrown,W'=Go.Sort.grow (redrawn ae q.d) q.os)->W'.rangeAt aJ (E*3) (gU ⟨u,true,aK⟩).toList:=by
    rintro W' ⟨q,rfl⟩ a4 bI z;exact((jO ae q.d q.os).C (p:=⟨aJ,E*3+a4,none⟩) bH).t (aC a4 bI z)
   have y:=dH ax an az a3 aM aN aL;have:(ad:Int)-1=E:=by omega
   have:(E:Int)<(ad:Int):=by omega
   have:¬(E:Int)<0:=by omega
   have:¬(ad:Int)<=E:=by omega
   have a5:¬(((j+1:Nat):Int))=0:=by omega
   have bJ:((((j+1:Nat):Int))==0)=false:=by simpa using a5
   have⟨bU,ae⟩:=eX (((j+1:Nat):Int):Int);rw[<-ae]at a5 bJ⊢;have aw:=aA au ae;have:ad<=1000:=by omega
   clear ax an az ay aZ aC a3 aM aN aL ar a0 au aI bG aX ae;refine bV (by kernel_rfl) ?_
   repeat(first|((with_reducible refine Dm _ ?_);refine Bp rfl 0 3 (AP y.a) (cD (s.a.t (xC _))) (dr rfl) nD rfl ll rfl ?_;simp only[o])|((with_reducible refine Dm _ ?_);refine yY rfl 111 (.tmp 56) rfl aJ (E*3) rfl _ a1 y.e _ nD rfl ll y.d ?_;simp only[o])|go_big_quiet_step (fail)|quiet_step (fail))
   refine qn fun bx Q=>?_;have a:=aY (y.a.Z Q y.a.lt) (bP y.b Q) (y.c.t (Q.m y.c.size)) ag.d;have an:=aA y.G y.f;clear Q;cases a2 with
   |true=>
    have Q:(j+1=0)\/((M.I k).getD (j+1) (0,0)).1≠((M.I k).getD (j+1-1) (0,0)).1:= .inr (by
     rw[<-s.B,Ej,<-an.a];have:=an.B;simpa using this)
    have ar:=H Q;clear Q;have ae:=aw.B;subst ae
    go_wp2_with (first|(refine br 0 3 a.a (G:=am) (cD (s.a.t (xC _))) (dr rfl) nD rfl ll rfl ?_)|((with_reducible refine xw _ _ _ ?_);refine BD Im J6 rfl (dr rfl) (dr rfl) (by have:=a.b;rwa[<-aw.a]at this) (G:=am) (by rw[s.a];rfl) (by rw[s.a];exact MH _) (by unfold maxLen;omega) (by omega) a.c.size rfl rfl rfl ?_;intro bz w9 ao ap aH))
    refine⟨⟨j+1+1,by have:=ah.y;omega,by go_num,⟨x++[⟨u,true,e.1⟩],?_,?_⟩,a.c.b ap a.c.size (fun b e=>(a.b.lt b e).1),⟨e.1,fun q ak=>by rw[show q=j+1 by omega,<-s.B],a.a.K ap (fun e=>a.D _ e.s rfl)⟩,fun b e=>?_⟩,by simp[intOf];omega⟩
    .rw[It p M k (j+1) (by rw[<-P.e];exact ah.y),aq ar.y,<-r.e,<-s.B,<-kZ,<-al.y]
    .rw[dc,qz,KT];rw[s.a,aw.a]at ao;exact ao
    obtain h|h:=aH b e
    .exact a.D b h
    have:=a.a.lt;omega
   |false=>
    have Q:¬((j+1=0)\/((M.I k).getD (j+1) (0,0)).1≠((M.I k).getD (j+1-1) (0,0)).1):=by
     rw[<-s.B,Ej,<-an.a];have:=an.B;simpa using this
    have ar:=H Q;clear Q;have ae:=aw.B;subst ae;go_wp2;refine⟨⟨j+1+1,by have:=ah.y;omega,by go_num,⟨x,?_,by rw[aw.a];exact a.b⟩,a.c,⟨e.1,fun q ak=>by rw[show q=j+1 by omega,<-s.B],a.a⟩,a.D⟩,by simp[intOf];omega⟩;rw[It p M k (j+1) (by rw[<-P.e];exact ah.y),O ar.y,<-al.y]
  obtain rfl:i=L:=by omega
  have:¬(i:Int)<i:=by omega
  have x:=aA m f;clear m f aa af aG;go_wp2;refine⟨⟨k+1,by omega,by go_num,?_,x.B⟩,by simp[intOf];omega⟩;rw[TS,<-agj,<-P.e,<-r.f,<-al.y];exact x.a
 obtain rfl:k=n:=by omega
 have:¬(k:Int)<k:=by omega
 have Q:=aA m f;clear m f;go_wp2;go_ret;exact⟨_,rfl,ft Q.a c.a.size,c.a.t (Q.B.m c.a.size)⟩
end
section
attribute [local irreducible] Code.wp wpList Oper.wp wpQuiet
attribute [local go_sem] AL AK BN Bk y7 zU BP zR zQ zC rj kf uq
def abu(p:a8)(g:Nat->Value)(M:Ms)(t:Nat)(x:Ins)(w:World)(A:eE w g p)(aC:t<4)(C:(bH p t)[(M.C t 0).toNat]? =some x)(E:x.op=4\/x.op=5\/x.op=6)(N:ol x)(ab:x.loc.toNat<6)(F:p.h.length<=4)(I:(bH p t).length<=12):
 Calls prog 200 #[.agg (J 10 g),.agg (J 142 (X (aB M))),.int .i64 t] w (Rs (.agg (J 142 (X (aB (qY M t x))))) w):=by
 have aQ:=ql;have aR:=Fh;have⟨be,l⟩:=eX (J 10 g);have⟨bg,n⟩:=eX (J 142 (X (aB M)));have⟨bh,r⟩:=eX (J 142 (X fun _=>0));have⟨GT,s⟩:=eX (J 9 fun _=>Value.int .u8 0);have⟨y,Q,T,aa,ad,ae,af⟩:=yI w 29 80 80 l n r;rw[<-l,<-n];rw[<-r]at aQ;rw[<-s]at aR;have:=bT l (dr rfl);have:=bT n (dr rfl);have:=bT r (dr rfl);have:=bT s (dr rfl);have⟨R,u⟩:=eX (qY M t x);rw[<-u];have q:=jR A C E N ab F I u;have m:=dH T aa ad ae af s Q;clear A C E N ab F I u T aa ad ae l n r s Q af;have aS:(t:Int)<4:=by omega
 go_enter func200,ntmps200
 go_upto_region 1 with fail
 rw[<-m.G];have aT:=H (aj.dq y 72 9 _ GT m.f)
 go_upto_region 2 with(first|(refine nF rfl 72 (.tmp 16) rfl (w.1.size+1) (t*9) 9 142 80 (X (aB M)) rfl m.c (by omega) _ qy rfl iT ?_;simp only[Act.put,lX,mm,lP,Kg M aC])|(refine eP rfl 72 (.tmp 7) (.tmp 17) rfl y.1.size 0 9 9 72 _ (cJ (M.C t)) rfl rfl aT.y (dr rfl) iT (fun i _=>rfl) ?_;intro l E r))
 have n:Below y y l:=ba y _|>.grown r (by simp) (fun j e=>by cases e;omega);have s:aj l y.1.size 72 9 (cJ (M.C t)):=E.congr fun i N=>by unfold bm;rw[aq ⟨by omega,by omega⟩,ez]
 have Q:=r.size;rw[cT]at Q;have u:=m.b.Z n m.b.lt;have cs:=m.c.Z n m.c.lt;have cr:=m.d.Z n m.d.lt;have A:=q.a.Z (m.a.t (n.m m.a.size)) (av _);have⟨aW,aX,aZ,a0,co,bi,F,a1,I,a2,T⟩:=Ic A q.b;have:=(bL.1 q.b).1;have a3:=(yU (cB q.b)).1;have aa:l.cell? ⟨w.1.size,3,none⟩=some (.slice (some ⟨aW,aX,none⟩) p.h.length aZ):=(u.C 3 (dr rfl)).t (by rw[F]);have ad:l.cell? y=some (.int .u8 (Y (M.C t 0))):=s.C 0 (dr rfl);have ae:¬(p.h.length:Int)<=t:=by omega
 have af:¬((bH p t).length:Int)<=Y (M.C t 0):=by unfold Y;omega
 have ag:Y (M.C t 0)<((bH p t).length:Int):=by unfold Y;omega
 have ah:(Y (M.C t 0)).toNat=(M.C t 0).toNat:=by unfold Y;omega
 have ai:(0:Int)<=Y (M.C t 0):=iW _;have ak:¬Y (M.C t 0)<0:=by omega
 have a4:w.1.size<l.1.size:=by have:=m.e;omega
 have aD:y.1.size<l.1.size:=by omega
 have a5:=H I;have C:=dH s u cs cr (m.a.t (n.m m.a.size)) A T;clear s u cs cr n A I T E r F;refine Bl.sW 9 _ _ (.cells (aV ⟨0,0,0,⟨false,0⟩,⟨false,0⟩,0,0,0⟩) 36) (.cells (aV x) 36) (by kernel_rfl) (by kernel_rfl) rfl rfl (fun a W=>EX Bu (dr rfl) _ _ _ _ _ _) rfl rfl ?_;simp only[st1]
 repeat(first|(refine Lx rfl _ _ rfl a0 (co+(M.C t 0).toNat*10) (aV x).toList rfl C.G a2 _ mr rfl kz ?_;simp only[o])|(refine Bl.dK rfl (fun W n=>by have g:=DB n;simp[execOp,go_sem,g,a4,aD,a1,ad,aa,a5.y,aS,ae,af,ah,ai,ak,ag,a3];rfl) ?_;simp only[o]))
 refine Bl.kr ?_;intro E;refine⟨Fe (.tmp 8) (.tmp 26) rfl E _ _ rfl rfl (by kernel_rfl) rfl (by simp[aV,Value.oneCell']),?_⟩;intro aE r bj A;have F:eO aE E x:=A;have I:=C.a.Z r aD;have T:=C.c.Z r C.c.lt;have al:=C.d.Z r C.d.lt;have am:=C.e.t (r.m C.e.size);have l:x.op≠3/\x.op≠8/\x.op≠7:=by obtain e|e|e:=q.c<;>rw[e]<;>decide
 have an:l9 x (M.C t)=M.C t:=by unfold l9;rw[O l.1,O l.2.1,O l.2.2]
 have ao:oB x=false:=by unfold oB;simp[l]
 have s:=OL x (M.C t) aE q.d ⟨fun e=>absurd e l.1,fun e=>absurd e l.2.1⟩;rw[an,ao]at s;have u:=dC F I T al am s;clear F I T al am s an ao l r A ad aa af ah ai ak ag ae
 go_upto_region 4 with(first|(refine nF rfl 36 (.tmp 8) rfl E 0 10 10 36 (fun i=>(aV x)[i]!) rfl u.a.r (dr rfl) _ mr rfl kz ?_;simp only[Act.put,lX,mm,lP,cK,yO])|(refine nF rfl 72 (.tmp 7) rfl y.1.size 0 9 9 72 (cJ (M.C t)) rfl u.b (dr rfl) _ qy rfl iT ?_;simp only[Act.put,lX,mm,lP,cK])|(go_at_call 147;refine u.F.st fun ad s=>?_)|(refine eP rfl 72 (.tmp 9) (.tmp 31) rfl ad.1.size 0 9 9 72 _ (cJ (M.C t)) rfl rfl (aj.dq ad 72 9 _ GT m.f) (dr rfl) iT (fun i _=>rfl) ?_;intro I ae T))
 have aa:Below ad.1.size ad I:=fJ T;have l:=s.t (aa.m s.size);have r:eO I E x:=u.a.Z l u.a.lt;have A:=r.cells;have aF:=r.lt;have F:=bM (u.b.Z l u.b.lt) (u.c.Z l u.c.lt) (u.d.Z l u.d.lt) (u.e.t (l.m u.e.size)) r;clear ae T aa l r s;have⟨z,l⟩:=eX (Y x.op);obtain⟨T,r⟩:∃f,f=if x.op=4 then 240 else if x.op=5 then 241 else 242:=⟨_,rfl⟩
 have aa:∀args w,(callFunc T args).run prog w= .ok (.enter T args) w:=by
  rw[r];obtain e|e|e:=q.c<;>rw[e]
  .exact gH func240 (by kernel_rfl) rfl
  .exact gH func241 (by kernel_rfl) rfl
  exact gH func242 (by kernel_rfl) rfl
 have af:∀{W:World}{s:Nat},W.ownsMap prog 5 sN s 5 vu->(Instr.lookup 321 (.map (some s)) (.int .u8 z) true).run prog W= .ok (.tuple #[.func (.func T) #[] #[],.bool true]) W:=fun h=>by rw[l,r];exact aav h q.c
 have ag:∀(bZ a b:UInt8) W,Calls prog T #[.int .u8 (Y bZ),.int .u8 (Y a),.int .u8 (Y b)] W (Rs (.int .u8 (Y (uk x bZ a b))) W):=fun bZ a b W=>by rw[r];exact U7 x q.c bZ a b W
 have Q:z≠2:=by rw[l];obtain e|e|e:=q.c<;>rw[e]<;>decide
 rw[<-l]at A;have aG:=H l;have ae:=aY aa @af ag Q;clear l r aa af ag Q;have a6:=H A;clear A
 go_upto_region 7 with fail
 refine Bo.j2 (jY I) (pW I) (show Below _ _ _ from⟨rfl,rfl,rfl,av _,fun _ _=>rfl⟩) 8 (by kernel_rfl) (by kernel_rfl) ?_;simp only[st1];refine wQ (fun v W=>∃s,v= .map (some s)/\W.ownsMap prog 5 sN s 5 vu) (fun v=>∃s,v= .map (some s)) 227 #[] rfl rfl (fun W W' h l=>trivial) (fun v W W' ⟨s,e,h⟩ l=>⟨s,e,MG h l⟩) (fun v W ⟨s,e,_⟩=>⟨s,e⟩) ⟨_,0,rfl⟩ (fun W=>by simp[execOp,go_sem])
  (fun W n _=>(WK W).m fun e W' ⟨s,l,r,Q⟩=>⟨_,l,⟨s,rfl,r⟩,Q⟩) (fun bl a7=>?_)
 obtain⟨s,rfl⟩:=a7;simp only[o]
 repeat(refine Bo.i rfl (fun W n=>by have c:=n.C (p:=E) aF;rw[a6.a]at c;simp[execOp,go_sem,c];rfl) ?_;simp only[o])
 refine Vc (.tuple #[.func (.func T) #[] #[],.bool true]) rfl rfl (fun W r ⟨_,l,e,h⟩=>⟨trivial,l,e,MG h (ba W r)⟩) (fun W n ⟨_,l,e,h⟩=>by
  iterate 2(injection e with e)
  subst e;have ab:=ae.b h;simp[execOp,go_sem,ab]) ?_
 simp only[o]
 repeat(refine Bo.i rfl (fun W n=>by simp[execOp,go_sem];rfl) ?_;simp only[o])
 refine Bo.oQ ?_;intro a9 r _;have r:Below I I a9:=r;have aa:=F.E.Z r aF;have A:=aa.cells;rw[<-aG.y]at A;have al:=(F.b.Z r F.b.lt)
 have ap:=q.e;have ao:=Qi al ap;have⟨L,Q⟩:=eX x.loc.toNat;rw[<-Q]at ao ap;have af:(Y x.loc).toNat=L:=by rw[Q];unfold Y;omega
 have ag:Y x.loc<6:=by have:=q.e;unfold Y;omega
 have ah:¬Y x.loc<0:=by have:=iW x.loc;omega
 have ai:¬(6:Int)<=Y x.loc:=by omega
 have ak:(0:Int)<=Y x.loc:=iW _;have⟨bZ,am⟩:=eX (M.mem L);rw[<-am]at ao;have l:=dH (F.a.Z r F.a.lt) al (F.c.Z r F.c.lt) (F.d.t (r.m F.d.size)) aa Q am;clear r aa al Q am
 go_upto_region 10 with fail
 have⟨ar,aa⟩:=eX (#[.bool x.a.cY,.int .u8 (Y x.a.n)]:Array Value);have⟨au,aw⟩:=eX (#[.bool x.b.cY,.int .u8 (Y x.b.n)]:Array Value);have⟨al,Q⟩:=eX (J 8 fun i=>cJ (M.C t) (1+i));have⟨am,ax⟩:=eX (kC (M.C t) x.a);have⟨an,ay⟩:=eX (kC (M.C t) x.b);have az:∀W,Calls prog 144 #[.agg ar,.agg al] W (Rs (.int .u8 (Y am)) W):=fun W=>by
  rw[aa,Q,ax];exact Dj x.a (uZ (M.C t)) W q.d.a
 have aH:∀W,Calls prog 144 #[.agg au,.agg al] W (Rs (.int .u8 (Y an)) W):=fun W=>by
  rw[aw,Q,ay];exact Dj x.b (uZ (M.C t)) W q.d.b
 have r:=dH az aH (show ar=J 2 fun i=>(aV x)[3+i]! from aa) (show au=J 2 fun i=>(aV x)[5+i]! from aw) Q ax ay;have I:=aA A l.e.lt;clear az aH Q ax ay aa aw A ao;refine Bl.j2 17 (by kernel_rfl) (by kernel_rfl) ?_;simp only[st1]
 repeat(first|(refine li 3 2 l.e.r r.c (dr rfl) qO rfl rH rfl ?_;simp only[o])|(refine li 5 2 l.e.r r.d (dr rfl) qO rfl rH rfl ?_;simp only[o])|(refine li 1 8 l.a r.e (dr rfl) vO rfl ud rfl ?_;simp only[o])|(refine Bl.dK rfl (fun W n=>by have c:=n.C (p:=⟨E,2,none⟩) I.B;rw[I.a.2.2.1]at c;simp[execOp,go_sem,c,af,ag,ah,ai,ak];rfl) ?_;simp only[o]))
 refine Bl.mZ 144 #[.agg ar,.agg al] rfl (fun W=>by simp[execOp,go_sem]) (fun W n=>r.a W) ?_;simp only[o]
 repeat(first|(refine li 3 2 l.e.r r.c (dr rfl) qO rfl rH rfl ?_;simp only[o])|(refine li 5 2 l.e.r r.d (dr rfl) qO rfl rH rfl ?_;simp only[o])|(refine li 1 8 l.a r.e (dr rfl) vO rfl ud rfl ?_;simp only[o])|(refine Bl.dK rfl (fun W n=>by have c:=n.C (p:=⟨E,2,none⟩) I.B;rw[I.a.2.2.1]at c;simp[execOp,go_sem,c,af,ag,ah,ai,ak];rfl) ?_;simp only[o]))
 refine Bl.mZ 144 #[.agg au,.agg al] rfl (fun W=>by simp[execOp,go_sem]) (fun W n=>r.b W) ?_;simp only[o]
 repeat(first|(refine li 3 2 l.e.r r.c (dr rfl) qO rfl rH rfl ?_;simp only[o])|(refine li 5 2 l.e.r r.d (dr rfl) qO rfl rH rfl ?_;simp only[o])|(refine li 1 8 l.a r.e (dr rfl) vO rfl ud rfl ?_;simp only[o])|(refine Bl.dK rfl (fun W n=>by have c:=n.C (p:=⟨E,2,none⟩) I.B;rw[I.a.2.2.1]at c;simp[execOp,go_sem,c,af,ag,ah,ai,ak];rfl) ?_;simp only[o]))
 refine Bl.mZ T #[.int .u8 (Y bZ),.int .u8 (Y am),.int .u8 (Y an)] rfl (fun W=>by simp[execOp,go_sem,ae.a]) (fun W n=>ae.c bZ am an W) ?_;simp only[o]
 repeat(first|(refine li 3 2 l.e.r r.c (dr rfl) qO rfl rH rfl ?_;simp only[o])|(refine li 5 2 l.e.r r.d (dr rfl) qO rfl rH rfl ?_;simp only[o])|(refine li 1 8 l.a r.e (dr rfl) vO rfl ud rfl ?_;simp only[o])|(refine Bl.dK rfl (fun W n=>by have c:=n.C (p:=⟨E,2,none⟩) I.B;rw[I.a.2.2.1]at c;simp[execOp,go_sem,c,af,ag,ah,ai,ak];rfl) ?_;simp only[o]))
 refine Bl.kr ?_;intro bn n;have⟨aw,ax⟩:=eX (uk x bZ am an);rw[<-ax];have⟨ay,az⟩:=eX ({M with mem:=P M.mem L aw}:Ms);refine kI (36+L) (.int .u8 (Y aw)) (X (aB ay)) (l.b.Z n l.b.lt) (by omega) nP rfl (fun i N=>by rw[az];exact Qt M ap aw i N) rfl rfl ?_;intro bo aH aa;have aJ:y.1.size≠w.1.size+1:=by have:=m.e;omega
 have ao:=(l.e.Z n l.e.lt).K aa;have ao:=ao (by intro e;injection e with e;have:=C.c.lt;omega);have A:=ao.cells;have aI:=aG.y;have e2:(Y x.op !=2)=true:=by rw[<-aI];simpa using ae.D
 have:=q.d.dst;have:(Y x.dst).toNat=x.dst.toNat:=by unfold Y;omega
 have:Y x.dst<8:=by unfold Y;omega
 have:¬Y x.dst<0:=by have:=iW x.dst;omega
 have:¬(8:Int)<=Y x.dst:=by omega
 have:(0:Int)<=Y x.dst:=iW _;have Q:=dC ((l.a.Z n l.a.lt).K aa (sn (by omega))) aH ((l.c.Z n l.c.lt).K aa (sn (by omega))) ((l.d.t (n.m l.d.size)).b aa (aO l.d.size n.size) (fun j e=>by cases e;omega)) ax az;have aK:=A.1;have aL:=A.2.1;clear aH ax az aa n ao A aI aJ;have aH:∀(g:Nat->UInt8)(k:Nat)(v:UInt8)(i:Nat),aU (cJ g) k (.int .u8 (Y v)) i=cJ (P g k v) i:=fun g k v i=>by unfold aU cJ P;split<;>rfl
 go_upto_region 13 with(refine kI (1+x.dst.toNat) (.int .u8 (Y bZ)) (cJ (P (M.C t) (1+x.dst.toNat) bZ)) Q.a (by omega) nP rfl (fun i _=>aH _ _ _ _) rfl rfl ?_;intro w9 aa n)
 have bb:w9.cell? y=some (.int .u8 (Y (M.C t 0))):=(aa.C 0 (dr rfl)).t (by unfold cJ;rw[bf _ _ (by omega)]);have:y.1.size≠w.1.size+1:=by have:=m.e;omega
 have:IntKind.u8.wrap (Y (M.C t 0)+1)=Y (M.C t 0+1):=rj (M.C t 0) 1;have A:=aY aa (Q.b.K n (sn (by omega))) (Q.c.K n (by intro e;injection e with e;have:=m.e;omega)) (Q.d.b n Q.d.size (fun j e=>by cases e;have:=m.e;omega));clear aa n aK aL e2;have⟨f3,ao⟩:=eX (P (P (M.C t) (1+x.dst.toNat) bZ) 0 (M.C t 0+1))
 go_upto_region 14 with(refine kI 0 (.int .u8 (Y (M.C t 0+1))) (cJ f3) A.a (by omega) nP rfl (fun i _=>by rw[ao];exact aH _ _ _ _) rfl rfl ?_;intro n aI aa)
 have aJ:=A.b.K aa (sn (by omega));have aK:=A.c.K aa (by intro e;injection e with e;have:=m.e;omega);have aL:=A.D.b aa A.D.size (fun j e=>by cases e;have:=m.e;omega);have⟨bc,ax⟩:=eX (J 9 (cJ f3));have aM:qj ay t f3=R:=by
  rw[q.H,Q.F,ao,l.G,Q.e,r.f,r.G,l.f,l.G,l.f];rfl
 have⟨bd,az⟩:=eX (J 142 (X (aB R)));have aN:bc=J 9 fun i=>cJ f3 (0+i):=by rw[ax];exact gP fun i _=>by rw[cK]
 have aP:bd=J 142 fun i=>X (aB R) (0+i):=by rw[az];exact gP fun i _=>by rw[cK]
 have n:=gQ aI aJ aK aL ax aN az aP aM;clear aI aJ aK aL aa bb ax aN az aP aM ao
 go_wp2_with (first|(refine br 0 9 n.a n.f (dr rfl) qy rfl iT rfl ?_)|(refine yb (t*9) 9 (cJ f3) (X (aB R)) n.b n.e (by omega) iT (fun i _=>rfl) (fun i N=>by rw[x7,SU ay aC f3 i N,n.I]) rfl rfl ?_;intro aI ao aa)|(refine br 0 142 ao n.h (dr rfl) dN rfl cQ rfl ?_)|(refine jS (X (aB R)) (n.c.K aa (sn (by omega))) n.g cQ (fun i _=>rfl) rfl rfl ?_;intro aJ ax az))
 refine bK (mT rfl _ ax _ rfl dN rfl cQ) rfl ?_;have ao:=n.d.b aa n.d.size (fun j e=>by cases e;omega);exact⟨rfl,ao.b az ao.size (fun j e=>by cases e;omega)⟩
end
section
attribute [local irreducible] Code.wp wpList Oper.wp wpQuiet
def adQ(p)(g)(M)(w)(l:eE w g p)(n:jH w g)(m:cO p)(A:dW p M)(C:∀t,M.I t=[]):
 Calls prog 199 #[(J 10 g),(J 142 (X (aB M)))] w fun e i=>∃v,e= .returned v/\i.ownsRow ↑w 3 1 v ↑(j6 p M p.h.length) (nums (j6 p M ↑p.h))/\Below ↑w w i:=by
 have⟨o,c⟩:=eX (J 10 g);have⟨q,f⟩:=eX (J 142 (X (aB M)));have⟨E,r,s,u,x,F⟩:=si w 29 80 c f;have y:∀W,Below w w W->Calls prog 137 #[o,q] W (Rs true W):=fun W j=>by
  rw[c,f];exact NV p g M W (l.Z j (av _)) (n.Z j) m A C
 have z:∀W,Below w w W->Calls prog 226 #[o,q] W fun e i=>∃v,e= .returned v/\i.ownsRow ↑W 3 1 v ↑(j6 p M p.h.length) (nums (j6 p M p.h))/\Below W W i:=fun W j=>by
  rw[c,f];exact adZ p g M W (l.Z j (av _)) m.iE (zB m)
 rw[<-c,<-f];have:=bT c (dr rfl);have:=bT f (dr rfl);have b:=jR s u x y z (cD c) (cD f) r;clear s u x y z l n c f r;go_enter func199,ntmps199
 go_upto_region 1 with fail
 rw[<-b.H]
 go_upto_region 3 with(first|(refine br 0 10 b.b b.f (dr rfl) fN rfl gC rfl ?_)|(refine br 0 142 b.c b.g (dr rfl) dN rfl cQ rfl ?_)|(go_at_call 137;refine(b.d _ b.a).st fun z f=>?_))
 have c:=aD (b.b.Z f b.b.lt) (b.c.Z f b.c.lt) (b.a.t (f.m b.a.size))
 go_wp2_with (first|(refine br 0 10 c.a b.f (dr rfl) fN rfl gC rfl ?_)|(refine br 0 142 c.b b.g (dr rfl) dN rfl cQ rfl ?_)|(go_at_call 226;refine(b.e _ c.C).m ?_;rintro e r ⟨v,rfl,l,n⟩))
 go_ret;refine⟨_,rfl,?_,c.C.t (n.m c.C.size)⟩;obtain⟨a,h|⟨n,r,s,u,x,y⟩⟩:=l
 .exact⟨a,.inl h⟩
 exact⟨a,.inr ⟨n,r,s,u,aO c.C.size x,y⟩⟩
def YF(p:a8)(g:Nat->Value)(M:Ms)(t:Nat)(x:Ins)(w:World)(r:eE w g p)(E:jH w g)(b:cO p)(F:dW p M)(I:∀t,M.I t=[])(s:nU p M t=some x)(N:x.op=4\/x.op=5\/x.op=6):
 Calls prog 146 #[.agg (J 10 g),.agg (J 142 (X (aB M))),.int .i64 t] w (Rs (.tuple #[.agg (J 142 (X (aB (qY M t x)))),.int .i64 0]) w):=by
 have ai:=ql;have⟨O,c⟩:=eX (J 10 g);have⟨P,f⟩:=eX (J 142 (X (aB M)));have⟨an,m⟩:=eX (J 142 (X fun _=>0));have⟨aj,o⟩:=eX (J 142 (X (aB (qY M t x))));have⟨l,Q,q,R,T,aa,ab⟩:=yI w 29 80 80 c f m;have⟨ak,al,ad⟩:=yR s;have y:=Bd b s;have h:Calls prog 199 #[.agg O,.agg P] l fun e ae=>∃v,e= .returned v/\ae.ownsRow l.1.size 3 1 v (j6 p M p.h.length).length (nums (j6 p M p.h.length))/\Below l l ae:=by
  rw[c,f];exact adQ p g M l (r.Z q (av _)) (E.Z q) b F I
 have af:∀W,Below w w W->Calls prog 200 #[.agg O,.agg P,.int .i64 t] W (Rs (.agg aj) W):=fun W am=>by
  rw[c,f,o];exact abu p g M t x W (r.Z am (av _)) (by have:=b.iE;omega) ad N y.ok (by have:=y.loc (by grind);have:=b.iG;omega) b.iE (zB b t)
 rw[<-c,<-f,<-o];rw[<-m]at ai;have z:=bT c (dr rfl);have:=bT f (dr rfl);have:=bT m (dr rfl);have C:t∈j6 p M p.h.length:=V4.2 ⟨ak,al⟩;have ag:=RD p M p.h.length;have:=b.iE;have⟨L,ah⟩:=eX (j6 p M p.h.length);rw[<-ah]at h C ag;have a:=Cc q R T aa h af (cD c) (cD f) o C ab Q;clear q R T aa h af r E c f m o Q ab s ad N y C ah F b I;go_enter func146,ntmps146
 go_upto_region 1 with fail
 rw[<-a.L]
 go_wp2_with (first|(refine br 0 10 a.b a.g (dr rfl) fN rfl gC rfl ?_)|(refine br 0 142 a.c a.h (dr rfl) dN rfl cQ rfl ?_))
 refine a.e.m ?_;rintro e s ⟨v,rfl,f,m⟩;obtain⟨A,N,rfl,_,_,o⟩:=Re f;rw[iL];have⟨n,c⟩:=eX L.length;rw[<-c]at ag⊢;have b:=aD m o c;clear m o c f;go_wp2
 go_loopw [14] (fun i wr=>∃k:Nat,k<=n/\i= .int .i64 k/\wr=s/\t∈L.drop k) (fun i _=>n-(intOf i).toNat)
 case atStart=>exact⟨0,aQ _,rfl,rfl,by simpa using a.j⟩
 obtain⟨k,Q,rfl,c,m⟩:=hrel;have o:k<n:=by
  have y:=TH m;rw[Gn,<-b.C]at y;omega
 obtain⟨u,q⟩:∃u,L[k]? =some u:=⟨_,aI (by rw[<-b.C];exact o)⟩
 have⟨C,E,F,R,r⟩:=b.b (by rw[iL,<-b.C];omega);have:wr.cell? ⟨C,E+k,none⟩=some (.int .i64 u):=by rw[c,r k (by rw[iL,<-b.C];exact o),ints_at _ _ _ q]
 have:(k:Int)<n:=by omega
 have f:=aD c m q;subst F;clear r c m q;by_cases m:u=t
 .subst m;have c:=aY (a.b.Z b.a a.b.lt) (a.c.Z b.a a.c.lt) (a.d.Z b.a a.d.lt) (a.a.t (b.a.m a.a.size));rw[<-f.a]at c
  go_wp2_with (first|(refine br 0 10 c.a a.g (dr rfl) fN rfl gC rfl ?_)|(refine br 0 142 c.b a.h (dr rfl) dN rfl cQ rfl ?_)|(go_at_call 200;refine(a.f _ c.D).st fun T q=>?_)|(refine jS (X (aB (qY M u x))) (c.c.Z q c.c.lt) a.i cQ (fun i _=>lg _ _) rfl rfl ?_;intro aa r I))
  refine bK (oT rfl _ r _ rfl dN rfl cQ) rfl ?_;refine⟨by rw[a.i];rfl,?_⟩;have r:=c.D.t (q.m c.D.size);exact r.b I r.size (fun j e=>by grind)
 have:((u:Int)==(t:Int))=false:=by grind
 have:¬(u:Int)=t:=by omega
 have z:t≠u:=fun e=>m e.s;have:=H z;clear m z;go_wp2;refine⟨⟨k+1,by omega,by go_num,f.a,?_⟩,by simp[intOf];omega⟩;have h:=f.b;rw[zD (by rw[<-b.C];exact o)]at h;obtain e|e:=fI.1 h
 .have:=f.C
  grind
 exact e
end
def aa3{b:Bf}{i}(h:i<b.length):b[i]? =some (b.getD i (0,0)):=by grind
def af5{b:Bf}(h:b.Pairwise fun a c=>a.1<=c.1){i j}(e:i<=j)(f:j<b.length):(b.getD i (0,0)).1<=(b.getD j (0,0)).1:=by
 obtain e|e:=qN i j
 .have:=BM.1 h i j (by omega) f e
  grind
 grind
def UY{b}{e}{at'}(m:b.Pairwise fun a c=>a.1<=c.1)(f:at'<=b.length)(n:∀j,at'<=j->j<b.length->e.1<(b.getD j (0,0)).1)(l:∀j,at'=j+1->(b.getD j (0,0)).1<=e.1):oZ b e=b.take at'++e::b.drop at':=by
 have h:∀x∈b.take at',x.1<=e.1:=fun x f=>by
  obtain⟨i,g,rfl⟩:=iD f;rw[qx]at g;obtain⟨q,rfl⟩:∃q,at'=q+1:=⟨at'-1,by omega⟩
  rw[List.getElem_take];have d:b[i]'(by omega)=b.getD i (0,0):=by rw[bj,aI (by omega:i<b.length)];rfl
  rw[d];exact UInt8.le_trans (af5 m (i:=i) (j:=q) (by omega) (by omega)) (l q rfl)
 have l:∀x∈b.drop at',e.1<x.1:=fun x f=>by
  obtain⟨i,g,rfl⟩:=iD f;rw[Gn]at g;rw[List.getElem_drop];have d:b[at'+i]'(by omega)=b.getD (at'+i) (0,0):=by rw[bj,aI (by omega:at'+i<b.length)];rfl
  rw[d];exact(n (at'+i) (by omega) (by omega))
 unfold oZ;have f1:b.filter (fun x=>decide (x.1<=e.1))=b.take at':=by
  rw[<-yu at' b,oh,J3.2 (fun x f=>fB (h x (by simpa using f))),EZ.2 (fun x f=>by simpa using l x (by simpa using f))];simp
 have f2:b.filter (fun x=>decide (e.1<x.1))=b.drop at':=by
  conv=>lhs;rw[<-yu at' b]
  rw[oh,EZ.2 (fun x f=>by simpa using h x f),J3.2 (fun x f=>fB (l x f))];simp
 rw[f1,f2]
def adl{b}{l}{k}(f:k<b.length)(e:∀j,j<k->(b.getD j (0,0)).1≠l)(g:(b.getD k (0,0)).1=l):tB b l=b.take k++b.drop (k+1)/\yP b l=(b.getD k (0,0)).2:=by
 induction b generalizing k with
 |nil=>simp at f
 |cons x b h=>
  cases k with
  |zero=>
   unfold tB yP
   grind
  |succ k=>
   have:=e 0 (by omega);have⟨a,c⟩:=h (k:=k) (by grind) (fun j i=>e (j+1) (by omega)) g;unfold tB yP at*
   grind
def Ve{b:Bf}{l v}(h:(l,v)∈b):∃k,k<b.length/\(∀j,j<k->(b.getD j (0,0)).1≠l)/\(b.getD k (0,0)).1=l:=by
 induction b with
 |nil=>cases h
 |cons x b c=>
  by_cases a:x.1=l
  .exact⟨0,by simp,fun j f=>by omega,a⟩
  obtain e|e:=fI.1 h
  .grind
  have⟨k,m,g,i⟩:=c e;exact⟨k+1,by grind,fun j f=>by
   cases j with
   |zero=>exact a
   |succ j=>exact g j (by omega),i⟩
def Lh(b c)(j):ir (b++c) j=if j/2<b.length then ir b j else ir c (j-2*b.length):=by
 unfold ir;by_cases h:j/2<b.length
 .rw[aq h];simp only[bj,lE h]
 rw[O h,show(j-2*b.length)%2=j%2 by omega,show(j-2*b.length)/2=j/2-b.length by omega];simp only[bj,kB (by omega:b.length<=j/2)]
def Ue(b)(k j)(h:j/2<k):ir (b.take k) j=ir b j:=by
 unfold ir
 grind
def QY(b)(k j):ir (b.drop k) j=ir b (2*k+j):=by
 unfold ir
 grind
def DT(b)(j)(h:b.length<=j/2):ir b j=0:=by
 unfold ir
 grind
def Ru(M){t}(n:t<4)(B)(f:Nat->UInt8)(h:∀j,j<24->f (42+24*t+j)=ir B j)(m:f (138+t)=UInt8.ofNat B.length)(c:∀i,i<142->¬(42+24*t<=i/\i<42+24*t+24)->i≠138+t->f i=aB M i):∀i,i<142->f i=aB {M with I:=P M.I t B} i:=by
 refine BV (fun u j a b=>?_) (fun l g=>?_) (fun u j a b=>?_) (fun u a=>?_)
 .rw[c _ (by omega) (by omega) (by omega),nA _ a b,nA _ a b]
 .rw[c _ (by omega) (by omega) (by omega),ox _ g,ox _ g]
 .rw[mD _ a b];show _=ir (P M.I t B u) j;by_cases e:u=t
  .subst e;rw[bc,h j b]
  rw[c _ (by omega) (by omega) (by omega),mD _ a b,bf _ _ e]
 rw[oS _ a];show _=UInt8.ofNat (P M.I t B u).length;by_cases e:u=t
 .subst e;rw[bc,m]
 rw[c _ (by omega) (by omega) (by omega),oS _ a,bf _ _ e]
def nf(f:Nat->UInt8)(a m:Nat)(h:Nat->UInt8)(i:Nat):UInt8:=if a<=i/\i<a+m then h (i-a)else f i
def Er(f h:Nat->UInt8)(o m i):bm (X f) o m (X h) i=X (nf f o m h) i:=by unfold bm X nf;split<;>rfl
def B6(M:Ms)(t k:Nat)(e:UInt8×UInt8):Nat->UInt8:=P (nf (nf (aB M) (42+t*24+(k+1)*2) (((M.I t).length-k)*2) (fun i=>aB M (42+t*24+k*2+i))) (42+t*24+k*2) 2 (nW e)) (138+t) (UInt8.ofNat ((M.I t).length+1))
def XY(M){t k}(b:t<4)(e)(n:(M.I t).length<12)(g:k<=(M.I t).length):∀i,i<142->B6 M t k e i=aB {M with I:=P M.I t ((M.I t).take k++e::(M.I t).drop k)} i:=by
 refine Ru M b _ _ (fun j c=>?_) ?_ (fun i o p l=>?_)
 .unfold B6;rw[bf _ _ (by omega)];have f:=fun q(m:q<24)=>mD M b m;rw[Lh,qx,xy g];unfold nf;by_cases a:j/2<k
  .rw[aq a,O (by omega),O (by omega),Ue _ _ _ a,f j c]
  rw[O a];by_cases j/2=k
  .rw[aq (by omega)];rw[show 42+24*t+j-(42+t*24+k*2)=j-2*k by omega];have:j-2*k=0\/j-2*k=1:=by omega
   obtain h|h:=this<;>rw[h]<;>rfl
  rw[O (by omega)];have e1:ir (e::(M.I t).drop k) (j-2*k)=ir (M.I t) (j-2):=by
   rw[show e::(M.I t).drop k=[e]++(M.I t).drop k from rfl,Lh,O (by grind),QY]
   grind
  rw[e1];by_cases j/2<=(M.I t).length
  .grind
  rw[O (by omega),f j c,DT _ _ (by omega),DT _ _ (by omega)]
 .unfold B6;rw[bc]
  grind
 unfold B6;rw[bf _ _ l];unfold nf
 grind
def CK(M:Ms)(t k:Nat):Nat->UInt8:=P (nf (nf (aB M) (42+t*24+k*2) (((M.I t).length-1-k)*2) (fun i=>aB M (42+t*24+(k+1)*2+i))) (42+t*24+((M.I t).length-1)*2) 2 (fun _=>0)) (138+t) (UInt8.ofNat ((M.I t).length-1))
def ab9(M){t k}(b:t<4)(h:(M.I t).length<=12)(l:k<(M.I t).length):∀i,i<142->CK M t k i=aB {M with I:=P M.I t ((M.I t).take k++(M.I t).drop (k+1))} i:=by
 refine Ru M b _ _ (fun j c=>?_) ?_ (fun i m n f=>?_)
 .unfold CK;rw[bf _ _ (by omega)];have e:=fun q(g:q<24)=>mD M b g;rw[Lh,qx,xy (by omega)];unfold nf;by_cases a:j/2<k
  .rw[aq a,O (by omega),O (by omega),Ue _ _ _ a,e j c]
  rw[O a,QY,show 2*(k+1)+(j-2*k)=j+2 by omega];by_cases j/2<(M.I t).length-1
  .grind
  rw[DT _ _ (by omega)];by_cases j/2=(M.I t).length-1
  .grind
  rw[O (by omega),O (by omega),e j c,DT _ _ (by omega)]
 .unfold CK;rw[bc]
  grind
 unfold CK;rw[bf _ _ f];unfold nf
 grind
def Xs{M}{t}{l}{i}(b:i<(M.I t).length)(c:∀j,i<j->j<(M.I t).length->((M.I t).getD j (0,0)).1≠l)(f:((M.I t).getD i (0,0)).1=l):pZ M t l=((M.I t).getD i (0,0)).2:=by
 unfold pZ;have:((M.I t).filter fun e=>e.1==l).getLast?=some ((M.I t).getD i (0,0)):=by
  have e:M.I t=(M.I t).take (i+1)++(M.I t).drop (i+1):=(yu _ _).s;have g:((M.I t).drop (i+1)).filter (fun e=>e.1==l)=[]:=EZ.2 fun x a=>by
   obtain⟨q,h,rfl⟩:=iD a;rw[Gn]at h;have:=c (i+1+q) (by omega) (by omega);rw[bj,aI (by omega:i+1+q<(M.I t).length)]at this;simpa using this
  have m:(M.I t).filter (fun e=>e.1==l)=((M.I t).take (i+1)).filter fun e=>e.1==l:=by
   conv=>lhs;rw[e]
   rw[oh,g,kL]
  have a:([(M.I t).getD i (0,0)].filter fun e=>e.1==l)=[(M.I t).getD i (0,0)]:=J3.2 fun x a=>by
   obtain rfl:=lh.1 a;exact fg.2 f
  rw[m,jd,aa3 b,oh];show(_++([(M.I t).getD i (0,0)].filter fun e=>e.1==l)).getLast?=_;rw[a,CH];rfl
 rw[this]
def abt{M}{t}{l}(b:∀j,j<(M.I t).length->((M.I t).getD j (0,0)).1≠l):pZ M t l=M.mem l.toNat:=by
 unfold pZ;rw[EZ.2 (fun x a=>by
  obtain⟨q,c,rfl⟩:=iD a
  grind)]
 rfl
def YI{P}{w}{dT sT ty elem}{b n o1 o2 k c1 c2 sz}{t}{g}(f:P.underlying dT=some (.slice elem))(h:(P.info? elem).map (·.size)=some sz)(a:aj w b t n g)(q:o1+k*sz<=n)(l:o2+k*sz<=n)(m:∀i,(g i).oneCell'=true):
 (Builtin.copy_ #[dT,sT] ty #[.slice (some ⟨b,o1,none⟩) k c1,.slice (some ⟨b,o2,none⟩) k c2]).run P w= .ok (goInt k) (w.setCells b o1 ((List.range (k*sz)).map fun i=>g (o2+i))):=by
 have e:=run_loadCells_list (P:=P) w ⟨b,o2,none⟩ ((List.range (k*sz)).map fun i=>g (o2+i)) (fun j v c=>by rw[eV];exact a.range o2 (k*sz) l j v c);have o:=run_storeCells_cells (P:=P) b o1 ((List.range (k*sz)).map fun i=>g (o2+i)) 0 w (by
  intro j c;rw[cV,pM]at c;rw[vY,a.C _ (by omega)];rfl) (fun j _=>a.free _) (fun v c=>by
  obtain⟨i,_,rfl⟩:=bX.1 c;exact m _)
 rw[cV,pM]at e;cases c:P.info? elem with
 |none=>simp[c]at h
 |some i=>
  have p:i.size=sz:=by grind
  simp[Builtin.copy_,Ji f,Builtin.lenOf,Builtin.firstCells,sizeOf,typeInfo,c,p,e,o]
def SV{P}{ops}{Q}{rest}{a}{w}{d}{ty t1 t2 elem t}{x y}{ps}{af}{b n sz}{g}(o1 o2 k c1 c2)(f)(j:P.underlying t1=some (.slice elem))(l:(P.info? elem).map (·.size)=some sz)(e:aj w b t n g)(m:o1+k*sz<=n)(o:o2+k*sz<=n)(p:∀i,(g i).oneCell'=true)
 (q:∀i,i<n->bm g o1 (k*sz) (fun i=>g (o2+i)) i=f i)(r:a.eval x= .slice (some ⟨b,o1,none⟩) k c1)(s:a.eval y= .slice (some ⟨b,o2,none⟩) k c2)
 (h:∀c,aj c b t n f->w.grownBy c (some b)->wpList P ops Q rest (a.put d (goInt k)) c):wpList P ops Q (Oper.mk d (.call {callee:= .builtin .copy,args:=#[x,y],argTypes:=#[t1,t2]}) ty ps af none::rest) a w:=
 Lib.wpList_copy_run w rfl x y t1 t2 rfl _ _ r s (YI j l e m o p) (h _ ((e.setCells (k*sz) o1 fun i=>g (o2+i)).congr q) (vx _ _ _ _))
def qB(a l:Nat):Nat:=if 12=l then a else a+l*2
def NI(off l h)(a:h<=12)(b:l<=h):(qB off l=off+l*2\/h-l=0)/\qB off l<=off+24:=by unfold qB;split<;>omega
def WA(b a l h:Nat)(g:l<=h)(i:h<=12)(W):(Instr.sliceAt 76 (.pointer (some ⟨b,a,none⟩)) (some (.int .i64 l)) (some (.int .i64 h)) none).run prog W= .ok (.slice (some ⟨b,qB a l,none⟩) (h-l) (12-l)) W:=by
 have c:prog.underlying 76=some (.array (prog.arrayLen 76) (prog.elem 76)):=by kernel_rfl
 have e:prog.arrayLen 76=12:=by kernel_rfl
 rw[run_sliceAt_array_lh W _ _ c .i64 .i64 l h (by omega) (by omega) (by omega)];have f:(sizeOf (prog.elem 76)).run prog W= .ok 2 W:=by kernel_rfl
 rw[f,e];show Result.ok (slicedAt ⟨b,a,none⟩ (l:Int).toNat (h:Int).toNat 12 2) W=_;unfold slicedAt qB;rw[sf,sf];split
 .rfl
 rw[eV]
def SJ{P}{ops}{K}{rest}{a}{w0}{d}{ty tp}{x lo hi}{ps}{af}(h:Bl.iQ P ops w0 K (Oper.mk d (.slice ty x (some lo) (some hi) none) tp ps af none::rest) a):Bl.iQ P ops w0 K (Oper.mk d (.slice ty x (some lo) (some hi) none) tp ps af none::rest) a:=h
def Hd{ops}{K}{rest}{a}{w0}{d}{tp}{x lo hi}{ps}{af}{b off}(l h:Nat)(c:l<=h)(e:h<=12)(f:a.eval x= .pointer (some ⟨b,off,none⟩))(g:a.eval lo= .int .i64 l)(i:a.eval hi= .int .i64 h)
 (j:Bl.iQ prog ops w0 K rest (a.put d (.slice (some ⟨b,qB off l,none⟩) (h-l) (12-l)))):Bl.iQ prog ops w0 K (Oper.mk d (.slice 76 x (some lo) (some hi) none) tp ps af none::rest) a:=
 Bl.dK rfl (fun W m=>by
   unfold execOp;simp only[FZ,Option.map_none,f,g,i,eD,WA b off l h c e W,eY,eZ]) j
def SD:prog.underlying 296=some (.slice 75):=by kernel_rfl
def Wb(b:Bf)(e:UInt8×UInt8):Nat->Bool
 |0=>false
 |j+1=>decide (e.1<(b.getD j (0,0)).1)
section
attribute [local irreducible] Code.wp wpList Oper.wp wpQuiet
attribute [local go_sem] rj EM
def abj(M:Ms)(t:Nat)(e:UInt8×UInt8)(w:World)(F:t<4)(an:(M.I t).length<12)(x:(M.I t).Pairwise fun a c=>a.1<=c.1):
 Calls prog 145 #[.int .u8 3,.agg (J 142 (X (aB M))),.int .i64 t,.agg (J 2 (X (nW e)))] w fun r aH=>r= .returned (.agg (J 142 (X (aB {M with I:=P M.I t (oZ (M.I t) e)}))))/\Below w w aH:=by
 have aI:=ql;have⟨aW,g⟩:=eX (J 142 (X (aB M)));have⟨GE,f⟩:=eX (J 2 (X (nW e)));have⟨aX,l⟩:=eX (J 142 (X fun _=>0));rw[<-l]at aI;have⟨A,C,E,m,n,N,aY⟩:=yI w 80 75 80 g f l;rw[<-g,<-f];have:=bT g (dr rfl);have:=bT f (dr rfl);have:=bT l (dr rfl);have⟨L,u⟩:=eX (M.I t).length;have Q:=AY m F (by omega);rw[<-u]at an Q;have ao:(t:Int)<4:=by omega
 have ap:¬(4:Int)<=t:=by omega
 have aq:¬(t:Int)<0:=by omega
 have:IntKind.i64.wrap ((L:Nat):Int)=L:=gw _ (by omega);have aJ:A.cell? (w.1.size+1:Nat)=some (.int .u8 (Y e.1)):=n.C 0 (dr rfl);have⟨R,v⟩:=eX (oZ (M.I t) e);rw[<-v];have b:=gQ E m n N u x (cD f) v C;clear E m n N u x g f l v C;go_enter func145,ntmps145
 go_upto_region 1 with fail
 rw[<-b.I]
 go_wp2_with fail
 clear Q
 go_loopw [10] (fun i wr=>∃k:Nat,k<=L/\i= .int .i64 k/\Below A A wr/\∀j,k<=j->j<L->e.1<((M.I t).getD j (0,0)).1) (fun i _=>(intOf i).toNat)
 case atStart=>exact⟨L,av _,rfl,aP _ _,fun j C N=>by omega⟩
 obtain⟨k,ab,rfl,l,g⟩:=hrel;have⟨c,m⟩:=eX (Wb (M.I t) e k:Bool);have f:=aD l g m;clear l m;clear g
 go_upto_region 3 with fail
 go_cut [35] (fun s g=>s= .bool c/\Below A A g)
 case first=>
  have cs:=b.b.Z f.a b.b.lt;have ar:wr.cell? (w.1.size+1:Nat)=some (.int .u8 (Y e.1)):=(f.a.C (p:=(w.1.size+1:Nat)) b.c.lt).t aJ;obtain _|j:=k
  .clear cs;refine bV (by kernel_rfl) ?_
   repeat(first|go_big_quiet_step (fail)|quiet_step (fail))
   refine qn fun W v=>?_;have ad:=H (f.a.t (v.m f.a.size));clear v;go_wp2
   go_meet
   exact⟨by rw[f.C];rfl,ad.y⟩
  have au:=DU cs F (i:=j) (by omega);have⟨y,g⟩:=eX (Y ((M.I t).getD j (0,0)).1);have⟨z,m⟩:=eX (Y e.1);rw[<-g]at au;rw[<-m]at ar;have aK:decide (z<y)=c:=by rw[f.C,g,m];exact Ba _ _
  have ae:((j+1:Nat):Int)-1=j:=by omega
  have af:(0:Int)<((j+1:Nat):Int):=by omega
  have aw:(j:Int)<12:=by omega
  have:¬(j:Int)<0:=by omega
  have:¬(12:Int)<=j:=by omega
  have⟨aZ,E⟩:=eX (((j+1:Nat):Int):Int);have aL:=H E;rw[<-E]at ae af⊢;have:=fun d ag=>bO au d ag;have:=fun d ag=>bO ar d ag;clear cs g m E;refine bV (by kernel_rfl) ?_
  repeat(first|go_big_quiet_step (fail)|quiet_step (fail))
  refine qn fun W v=>?_;have ad:=H (f.a.t (v.m f.a.size));clear v
  go_wp2_with fail
  have E:=aL.y;subst E
  go_meet
  exact⟨by simp[aK],ad.y⟩
 obtain⟨rfl,l⟩:=hcut;cases c
 .have m:R=(M.I t).take k++e::(M.I t).drop k:=by
   rw[b.h];refine UY b.f (by rw[<-b.e];exact ab) (fun j C N=>f.b j C (by rw[b.e];exact N)) (fun j aM=>?_);have ah:=f.C;subst aM;have:¬e.1<((M.I t).getD j (0,0)).1:=yG ah.s;exact UInt8.not_lt.1 this
  have g:=bM l (b.b.Z l b.b.lt) (b.c.Z l b.c.lt) (b.d.Z l b.d.lt) m;clear l m;go_wp2;refine Bl.j2 14 (by kernel_rfl) (by kernel_rfl) ?_;simp only[st1];have⟨u,n⟩:=eX (k+1:Nat);have⟨m,x⟩:=eX (L+1:Nat);have aN:IntKind.i64.wrap ((k:Int)+1)=(u:Int):=by rw[n];exact(gw _ (by omega)).t (by omega)
  have aO:IntKind.i64.wrap ((L:Int)+1)=(m:Int):=by rw[x];exact(gw _ (by omega)).t (by omega)
  have ax:u<=m:=by omega
  have ay:m<=12:=by omega
  have aQ:L<=12:=by omega
  have ai:=aA n x;clear n x
  repeat(first|((with_reducible refine SJ ?_);first|refine Hd u m ax ay rfl rfl rfl ?_|refine Hd k L ab aQ rfl rfl rfl ?_)|(refine Bl.dK rfl (fun W v=>by simp[execOp,go_sem,ao,ap,aq,aN,aO];rfl) ?_);simp only[o])
  refine Bl.kr ?_;intro a0 x;have aa:=ai.y;have aj:m-u=L-k:=by omega
  have⟨f1,T⟩:=eX (nf (aB M) (42+t*24+(k+1)*2) ((L-k)*2) (fun i=>aB M (42+t*24+k*2+i)));have ak:=NI (42+t*24) u m ay ax;have al:qB (42+t*24) k=42+t*24+k*2:=by unfold qB;rw[O (by omega)]
  rw[al];refine SV (qB (42+t*24) u) (42+t*24+k*2) (L-k) (12-u) (12-k) (X f1) SD rS (g.b.Z x g.b.lt) (by omega) (by omega) (fun i=>lg _ _) (fun i _=>?_) (by show Value.slice _ (m-u) _=_;rw[aj]) rfl ?_
  .rw[T];refine Eq.t ?_ (Er _ _ _ _ _);obtain h|h:=ak.1
   .rw[h,aa.1];rfl
   have aR:L-k=0:=by omega
   rw[aR];unfold bm;rw[O (by omega),O (by omega)]
  intro aS am Q;have az:Below w w aS:=by
   have aC:=(b.a.t (g.a.m b.a.size)).t (x.m (b.a.t (g.a.m b.a.size)).size);exact aC.b Q aC.size (fun j e=>by cases e;omega)
  have n:=bM am az ((g.c.Z x g.c.lt).K Q (sn (by omega))) ((g.d.Z x g.d.lt).K Q (sn (by omega))) T;clear am Q az T x ak al aj aa;have ae:(k:Int)<12:=by omega
  have af:¬(12:Int)<=k:=by omega
  have aw:¬(k:Int)<0:=by omega
  go_upto_region 6 with fail
  refine Bl.j2 6 (by kernel_rfl) (by kernel_rfl) ?_;simp only[st1]
  repeat(first|(refine li 0 2 n.c b.g (dr rfl) IB rfl rS rfl ?_)|(refine Bl.dK rfl (fun W v=>by simp[execOp,go_sem,ao,ap,aq,ae,af,aw];rfl) ?_);simp only[o])
  refine Bl.kr ?_;intro a1 Q;have⟨f2,T⟩:=eX (nf f1 (42+t*24+k*2) 2 (nW e));refine yb (42+t*24+k*2) 2 (X (nW e)) (X f2) (n.a.Z Q n.a.lt) (b.g.t (gP fun i _=>by rw[cK])) (by omega) rS (fun i _=>lg _ _) (fun i _=>by rw[T];exact Er _ _ _ _ _) rfl rfl ?_;intro aT aj ak;have al:=n.b.t (Q.m n.b.size);have az:=al.b ak al.size (fun j e=>by cases e;omega);have aE:=(n.d.Z Q n.d.lt).K ak (sn (by omega));have aF:f2 (138+t)=UInt8.ofNat L:=by
   rw[T,n.E];unfold nf;rw[O (by omega),O (by omega),oS M F,<-b.e]
  have:aT.cell? ⟨w,138+t,none⟩=some (.int .u8 (L:Int)):=by
   rw[aj.C _ (by omega)];unfold X;rw[aF,qD _ (by omega)]
  have⟨aa,am⟩:=eX ({M with I:=P M.I t R}:Ms);have aG:∀i,i<142->aU (X f2) (138+t) (.int .u8 ((m:Nat):Int)) i=X (aB aa) i:=fun i aV=>by
   rw[am,g.E];have C:=XY M F e (by rw[<-b.e];exact an) (by rw[<-b.e];exact ab) i aV;unfold X;rw[<-C];unfold B6;rw[<-b.e,<-n.E,<-T,<-ai.B];unfold aU P;split
   .rw[qD _ (by omega)]
   rfl
  have:IntKind.u8.wrap ((L:Int)+1)=(m:Int):=(FL _ (by omega)).t (by have:=ai.B;omega);have x:=bM aj az aE aG am;clear aj ak az aE aG am al Q aF T;have⟨am,Q⟩:=eX (J 142 (X (aB aa)));have T:=H Q;clear Q
  go_wp2_with (first|(refine kI (138+t) (.int .u8 ((m:Nat):Int)) (X (aB aa)) x.a (by omega) nP rfl x.d rfl rfl ?_;intro az aj Q)|(refine br 0 142 aj (cD T.y) (dr rfl) dN rfl cQ rfl ?_)|(refine jS (X (aB aa)) (x.c.K Q (sn (by omega))) T.y cQ (fun i _=>lg _ _) rfl rfl ?_;intro w9 ak al))
  refine bK (mT rfl _ ak _ rfl dN rfl cQ) rfl ?_;have aj:=x.b.b Q x.b.size (fun j e=>by cases e;omega);exact⟨by rw[x.E],aj.b al aj.size (fun j e=>by cases e;omega)⟩
 obtain⟨j,rfl⟩:∃j,k=j+1:=by
  have ah:=f.C;cases k with
  |zero=>cases ah
  |succ j=>exact⟨j,rfl⟩
 have g:=H l;clear l;go_wp2;refine⟨⟨j,by omega,by go_num,g.y,fun q C N=>?_⟩,by simp[intOf]⟩;by_cases e1:q=j
 .subst e1;exact mf f.C.s
 exact f.b q (by omega) N
def afI(p:a8)(M:Ms)(x:Ps)(v:UInt8)(w:World)(q:cO p)(s:dW p M){t:Nat}(z:t<4)(R:t=x.t)(u:(x.l,v)∈M.I t):
 Calls prog 142 #[.int .u8 3,(J 142 (X (aB M))),(J 3 (ig x))] w fun r ay=>r=(J 142 (X (aB (vB M t x.l))))/\Below w w ay:=by
 have az:=ql;have aC:=Q5;have⟨aT,c⟩:=eX (J 142 (X (aB M)));have⟨aV,g⟩:=eX (J 3 (ig x));have⟨aW,l⟩:=eX (J 142 (X fun _=>0));have⟨aX,m⟩:=eX (J 2 (X fun _=>0));rw[<-l]at az;rw[<-m]at aC;have⟨ae,T,aa,A,n,ab,ah⟩:=yI w 80 111 80 c g l;rw[<-c,<-g];have:=bT c (dr rfl);have:=bT g (dr rfl);have:=bT l (dr rfl);have:=bT m (dr rfl);have F:=s.Bh q t;have⟨af,am,C,E⟩:=Ve u;have⟨ad,ag⟩:=adl am C E;have aE:x.l.toNat<6:=by have:=s.loc t _ u;have:=q.iG;simp only at*;omega
 have⟨L,Q⟩:=eX (M.I t);have N:=AY A z (by omega);have ai:ae.cell? (w+1:Nat)=some (.int .u8 (t:Int)):=by rw[n.C 0 (dr rfl),R];rfl
 rw[<-Q]at F N am;have aF:(t:Int)<4:=by omega
 have aG:¬(4:Int)<=t:=by omega
 have aH:¬(t:Int)<0:=by omega
 have:IntKind.i64.wrap ((L:Nat):Int)=L:=gw _ (by omega);have aI:=n.C 2 (dr rfl);obtain⟨b,f⟩:∃b:Nat,L=b+1:=⟨L-1,by omega⟩
 have aJ:IntKind.i64.wrap ((L:Int)-1)=(b:Int):=(gw _ (by omega)).t (by omega);have a:=Cc aa A n ab Q C E ad ag f m T;clear aa A n ab Q C E ad ag f c g l m T ah q s u R;go_enter func142,ntmps142
 go_upto_region 1 with fail
 rw[<-a.L]
 go_wp2_with fail
 clear N ai
 go_loopw [9] (fun i wr=>∃k,k<=af/\i= .int .i64 k/\Below ae ae wr) (fun i _=>af-(intOf i).toNat)
 case atStart=>exact⟨0,aQ _,rfl,aP _ _⟩
 obtain⟨k,aZ,rfl,c⟩:=hrel;have cs:=a.b.Z c a.b.lt;have ag:wr.cell? ⟨w+1,2,none⟩=some x.l:=(c.C (p:=⟨w+1,2,none⟩) a.c.lt).t aI;have Q:=DU cs z (i:=k) (by omega);have⟨y,g⟩:=eX ((M.I t).getD k (0,0)).1;rw[<-g]at Q;have l:=aD c cs g;have:(k:Int)<12:=by omega
 have:¬(k:Int)<0:=by omega
 have:¬(12:Int)<=k:=by omega
 have an:=fun d ah=>bO Q d ah;have ao:=fun d ah=>bO ag d ah;clear c cs g;by_cases C:k=af
 .have e1:(Y y !=Y x.l)=false:=by rw[l.C,C,a.g];simp
  have m:=H C;clear C
  go_upto_region 3 with fail
  refine bV (by kernel_rfl) ?_
  repeat(first|go_big_quiet_step (fail)|quiet_step (fail))
  refine qn fun W s=>?_;have g:=l.a.t (s.m l.a.size);have c:=aD g (a.b.Z g a.b.lt) (a.d.Z g a.d.lt);clear s g an ao Q ag;have⟨u,g⟩:=eX ((M.I t).getD k (0,0)).2;have⟨GE,n⟩:=eX (J 2 (X (nW (y,u))));have q:GE=J 2 fun i=>X (aB M) (42+t*24+k*2+i):=by
   rw[n,g,l.C];refine(Ui M z (i:=k) (by omega)).s.t (gP fun i _=>by rw[show 42+t*24+k*2+i=42+t*24+(k*2+i) by omega])
  have ai:=aD n q g;clear n q g
  go_upto_region 6 with(first|(refine br (42+t*24+k*2) 2 c.b ai.b (by omega) IB rfl rS rfl ?_)|(refine mh (X (nW (y,u))) ai.a (by rw[a.k,dF]) rS (fun i _=>lg _ _) rfl rfl ?_;intro n q g))
  have aK:y=x.l:=by rw[l.C,m.y];exact a.g
  subst aK;have E:=c.a.t (g.m c.a.size);have n:=aY q (c.b.Z g c.b.lt) (c.C.Z g c.C.lt) (a.a.t (E.m a.a.size));have:=c.C.lt;have f:=a.j;clear q g E e1;have⟨q,g⟩:=eX (k+1:Nat);have aL:IntKind.i64.wrap ((k:Int)+1)=(q:Int):=by rw[g];exact(gw _ (by omega)).t (by omega)
  have ap:q<=L:=by have:=m.y;omega
  have aM:k<=b:=by have:=m.y;omega
  have aN:b<=12:=by omega
  have:(b:Int)<12:=by omega
  have:¬(12:Int)<=b:=by omega
  have:¬(b:Int)<0:=by omega
  have R:=aA g f;clear g f;refine Bl.j2 14 (by kernel_rfl) (by kernel_rfl) ?_;simp only[st1]
  repeat(first|((with_reducible refine SJ ?_);first|refine Hd q L ap F rfl rfl rfl ?_|refine Hd k b aM aN rfl rfl rfl ?_)|(refine Bl.dK rfl (fun W s=>by simp[execOp,go_sem,aF,aG,aH,aL,aJ];rfl) ?_);simp only[o])
  refine Bl.kr ?_;intro a0 g;have ab:=R.y;have ad:L-q=b-k:=by omega
  have⟨f1,T⟩:=eX (nf (aB M) (42+t*24+k*2) ((b-k)*2) (fun i=>aB M (42+t*24+(k+1)*2+i)));have aj:=NI (42+t*24) q L F ap;have ak:qB (42+t*24) k=42+t*24+k*2:=by unfold qB;rw[O (by omega)]
  rw[ak];refine SV (42+t*24+k*2) (qB (42+t*24) q) (b-k) (12-k) (12-q) (X f1) SD rS (n.b.Z g n.b.lt) (by omega) (by omega) (fun i=>lg _ _) (fun i _=>?_) rfl (by show Value.slice _ (L-q) _=_;rw[ad]) ?_
  .rw[T];refine Eq.t ?_ (Er _ _ _ _ _);obtain h|h:=aj.1
   .rw[h,ab.1];rfl
   have aO:b-k=0:=by omega
   rw[aO];unfold bm;rw[O (by omega),O (by omega)]
  intro a1 al E;have aa:=n.D.t (g.m n.D.size);have aq:=aa.b E aa.size (fun j e=>by cases e;omega);have ar:=(n.a.Z g n.a.lt).K E (sn (by omega));have au:=(n.c.Z g n.c.lt).K E (sn (by omega));have⟨f2,av⟩:=eX (nf f1 (42+t*24+b*2) 2 (fun _=>0));have f:=dC al aq ar au T av;clear al E aq ar au T g aj ak ad ab aa av
  go_upto_region 8 with(refine yb (42+t*24+b*2) 2 (X fun _=>0) (X f2) f.a a.k (by omega) rS (fun i _=>lg _ _) (fun i _=>by rw[f.F];exact Er _ _ _ _ _) rfl rfl ?_;intro g aj T)
  have aq:=f.b.b T f.b.size (fun j e=>by cases e;omega);have ar:=f.d.K T (sn (by omega));have aa:=f.c.K T (sn (by omega));have au:f2 (138+t)=UInt8.ofNat L:=by
   rw[f.F,f.e];unfold nf;rw[O (by omega),O (by omega),oS M z,<-a.e]
  have N:g.cell? ⟨w,138+t,none⟩=some (.int .u8 (L:Int)):=by
   rw[aj.C _ (by omega)];unfold X;rw[au,qD _ (by omega)]
  have⟨E,ab⟩:=eX ({M with I:=P M.I t (tB (M.I t) x.l)}:Ms);have av:∀i,i<142->aU (X f2) (138+t) (.int .u8 ((b:Nat):Int)) i=X (aB E) i:=fun i ak=>by
   have:=R.B;rw[ab,a.h,<-m.y];have aR:=ab9 M z (k:=k) (by rw[<-a.e];exact F) (by rw[<-a.e];omega) i ak;unfold X;rw[<-aR];unfold CK;rw[<-a.e,show L-1=b by omega,<-f.e,<-f.F];unfold aU P;split
   .rw[qD _ (by omega)]
   rfl
  have:IntKind.u8.wrap ((L:Int)-1)=(b:Int):=(FL _ (by have:=R.B;omega)).t (by have:=R.B;omega);have aS:=aa.C 0 (dr rfl);have A:=aa.C 1 (dr rfl);have⟨ad,al⟩:=eX ({E with mem:=P E.mem x.l u}:Ms);have aw:ad=vB M t x.l:=by
   rw[al,ab];unfold vB;rw[a.i,ai.C,m.y]
  have:(Y x.l).toNat=x.l:=by unfold Y;omega
  have:Y x.l<6:=by unfold Y;omega
  have:¬Y x.l<0:=by have:=iW x.l;omega
  have:¬(6:Int)<=Y x.l:=by omega
  have⟨a2,ax⟩:=eX (J 142 (X (aB ad)));have g:=gQ aj aq ar av ab al aw ax aa;clear aj T aq ar av ab au al aw ax aa aS A
  go_upto_region 9 with(refine kI (138+t) (.int .u8 ((b:Nat):Int)) (X (aB E)) g.a (by omega) nP rfl g.d rfl rfl ?_;intro T ab A)
  have aa:=g.I.K A (sn (by omega));have:T.cell? W=some x.l:=aa.C 0 (dr rfl);have:T.cell? ⟨W,1,none⟩=some u:=aa.C 1 (dr rfl);have T:=aD ab (g.b.b A g.b.size (fun j e=>by cases e;omega)) (g.c.K A (sn (by omega)));clear ab A aa N
  go_wp2_with (first|(refine kI (36+x.l) u (X (aB ad)) T.a (by omega) nP rfl (fun i ak=>by rw[g.f];exact Qt E aE u i ak) rfl rfl ?_;intro w9 N A)|(refine br 0 142 N (cD g.h) (dr rfl) dN rfl cQ rfl ?_)|(refine jS (X (aB ad)) (T.C.K A (sn (by omega))) g.h cQ (fun i _=>lg _ _) rfl rfl ?_;intro aj aa ab))
  refine bK (mT rfl _ aa _ rfl dN rfl cQ) rfl ?_;have N:=T.b.b A T.b.size (fun j e=>by cases e;omega);exact⟨by rw[g.g],N.b ab N.size (fun j e=>by cases e;omega)⟩
 have:(Y y !=Y x.l)=true:=by rw[uq];rw[l.C];simpa using a.f k (by omega)
 have m:=H C;clear C
 go_upto_region 3 with fail
 refine bV (by kernel_rfl) ?_
 repeat(first|go_big_quiet_step (fail)|quiet_step (fail))
 refine qn fun W s=>?_;have c:=H (l.a.t (s.m l.a.size));clear s an ao Q ag;go_wp2;exact⟨⟨k+1,by have:=m.y;omega,by go_num,c.y⟩,by have:=m.y;simp[intOf];omega⟩
end
def Wq(M:Ms)(t:Nat)(l:UInt8)(w:World)(h:t<4)(x:(M.I t).length<=12)(A:l.toNat<6):
 Calls prog 143 #[.agg (J 142 (X (aB M))),.int .i64 t,.int .u8 (Y l)] w fun r C=>r= .returned (.int .u8 (Y (pZ M t l)))/\Below w w C:=by
 have⟨s,b⟩:=eX (J 142 (X (aB M)));have⟨m,c⟩:=eX (w.alloc (.cells s 80));have o:Below w w m:=by rw[c];exact ba w _
 have f:aj m w.1.size 80 142 (X (aB M)):=by rw[c];exact aj.dq w _ 142 _ s b
 rw[<-b];have:=bT b (dr rfl);have⟨L,g⟩:=eX (M.I t).length;have p:=AY f h (by omega);have:=Qi f A;rw[<-g]at x p;have:(t:Int)<4:=by omega
 have:¬(4:Int)<=t:=by omega
 have:¬(t:Int)<0:=by omega
 have:IntKind.i64.wrap ((L:Nat):Int)=L:=gw _ (by omega);have:IntKind.i64.wrap (Y l)=Y l:=gw _ (by have:=iW l;have:=pC l;omega);have:¬(6:Int)<=Y l:=by unfold Y;omega
 have:Y l<6:=by omega
 have:(Y l).toNat=l.toNat:=by unfold Y;omega
 have:¬Y l<0:=by have:=iW l;omega
 have⟨u,v⟩:=eX ((L:Int)-1:Int);have:min (L:Int) 12-1=u:=by omega
 have⟨R,n⟩:=eX (pZ M t l);rw[<-n];have a:=dC o f g n v c;clear o f g b n v c;go_enter func143,ntmps143
 go_upto_region 1 with fail
 rw[<-a.F]
 go_wp2_with fail
 clear p
 go_loopw [7] (fun i wr=>∃k:Nat,k<=L/\(∃z:Int,i= .int .i64 z/\z=(k:Int)-1)/\wr=m/\∀j,k<=j->j<L->((M.I t).getD j (0,0)).1≠l) (fun i _=>(intOf i+1).toNat)
 case atStart=>exact⟨L,av _,⟨u,rfl,a.e⟩,rfl,fun j n f=>by omega⟩
 obtain⟨k,E,⟨z,rfl,o⟩,c,b⟩:=hrel;obtain _|j:=k
 .obtain rfl:z= -1:=by omega
  have p:=H (show R=M.mem l.toNat by rw[a.d];exact abt fun j g=>b j (aQ _) (by rw[a.c];exact g));rw[c];clear b c o;go_wp2;go_ret;exact⟨by rw[p.y];rfl,a.a⟩
 obtain rfl:z=(j:Int):=by omega
 have:(0:Int)<=(j:Int):=by omega
 have:(j:Int)<12:=by omega
 have:¬(j:Int)<0:=by omega
 have:¬(12:Int)<=(j:Int):=by omega
 have F:=DU a.b h (i:=j) (by omega);have:=Zg a.b h (i:=j) (by omega);have⟨y,g⟩:=eX ((M.I t).getD j (0,0)).1;rw[<-g]at F;rw[c];by_cases e:y=l
 .have e1:(Y y==Y l)=true:=by grind
  have p:=H (show R=((M.I t).getD j (0,0)).2 by rw[a.d];exact Xs (by rw[<-a.c];exact E) (fun q n f=>b q n (by rw[a.c];exact f)) (by grind));clear b c o g e;go_wp2;go_ret;exact⟨by rw[p.y];rfl,a.a⟩
 have:(Y y==Y l)=false:=by rw[kf];simpa using e
 have v:=aD b g e;clear b c o g e;go_wp2;refine⟨⟨j,by omega,⟨(j:Int)-1,by go_num,rfl⟩,trivial,fun q n f=>?_⟩,by simp[intOf]⟩;by_cases e2:q=j
 .subst e2;rw[<-v.b]
  grind
 exact v.a q (by omega) f
section
attribute [local irreducible] Code.wp wpList Oper.wp wpQuiet
attribute [local go_sem] AL AK BN Bk y7 zU BP zR zQ zC rj kf uq
def Kq(w:World)(t1 t2 t3 t4){n1 n2 n3 n4}{g1 g2 g3 g4}{G1 G2 G3 G4}(b:G1=J n1 g1)(c:G2=J n2 g2)(f:G3=J n3 g3)(g:G4=J n4 g4):∃a,a=(((w.alloc (.cells G1 t1)).alloc (.cells G2 t2)).alloc (.cells G3 t3)).alloc (.cells G4 t4)/\Below w w a/\aj a w t1 n1 g1/\aj a (w+1) t2 n2 g2/\aj a (w+2) t3 n3 g3/\aj a (w+3) t4 n4 g4/\a.1.size=w+4:=by
 have⟨h,e,i,j,l,m,n⟩:=yI w t1 t2 t3 b c f;refine⟨_,rfl,?_,?_,?_,?_,?_,by simp⟩<;>rw[<-e]
 .exact i.alloc (by omega) _
 .exact j.alloc _
 .exact l.alloc _
 .exact m.alloc _
 have:=aj.dq h t4 n4 g4 G4 g
 grind
def Pu{P:Program}{ops}{S}{a}{d}{ty tp}{x}{ps}{af}{b n}{t}{g}{G}(o m)(e:∀W,S W->aj W b t n g)(f:G=J m fun i=>g (o+i))(h:o+m<=n){c:TypeDesc}(j:P.underlying ty=c)(l:c.isRow=true)(p:(P.info? ty).map (·.size)=m)(p:a.eval x= .pointer (some ⟨b,o,none⟩)):YieldsIf P ops S (Oper.mk d (.load ty x) tp ps af none) G a:=
 .inl ⟨rfl,fun W q=>by
  subst f;unfold execOp;simp only[p,Instr.loadAt,Instr.sureAddr,eD,eZ,eY,qu (P:=P) W b o ty _ c ((e W q).range o m h) j l (by grind)];rfl⟩
def aan(u v)(w):(Instr.build 75 #[(0,.int .u8 u),(1,.int .u8 v)]).run prog w= .ok (.agg #[.int .u8 u,.int .u8 v]) w:=by kernel_rfl
def ab3(M)(m){f}(e:∀l,l<6->f l= .int .u8 (Y (m l))):∀i,i<142->bm (X (aB M)) 36 6 f i=X (aB {M with mem:=m}) i:=by
 refine BV (fun t j a b=>?_) (fun l c=>?_) (fun t j a b=>?_) (fun t a=>?_)
 .rw[kE _ _ _ _ (by omega)];unfold X;rw[nA _ a b,nA _ a b]
 .rw[Hr _ _ _ _ c,e l c];unfold X;rw[ox _ c]
 .rw[kE _ _ _ _ (by omega)];unfold X;rw[mD _ a b,mD _ a b]
 rw[kE _ _ _ _ (by omega)];unfold X;rw[oS _ a,oS _ a]
def ax(w c:World)(t:Nat)(R:Ms)(W:World):Prop:=∃a b,aj W (w.1.size+1) 80 142 (X (aB a))/\aj W c.1.size 72 9 (cJ b)/\aj W (w.1.size+3) 80 142 (X fun _=>0)/\Below w w W/\qj a t b=R
def acS(p:a8)(g:Nat->Value)(M:Ms)(x:Ps)(w:World)(ag:eE w g p)(ah:jH w g)(s:cO p)(aa:dW p M)(an:x∈di p M):
 Calls prog 87 #[.agg (J 10 g),.int .u8 3,.agg (J 142 (X (aB M))),.agg (J 3 (ig x))] w (Rs (.agg (J 142 (X (aB (fZ p M x))))) w):=by
 have a7:=ql;have bj:=Fh;have⟨a9,A⟩:=eX (J 10 g);have⟨au,b⟩:=eX (J 142 (X (aB M)));have⟨bl,C⟩:=eX (J 3 (ig x));have⟨bb,L⟩:=eX (J 142 (X fun _=>0));have⟨GT,ab⟩:=eX (J 9 fun _=>Value.int .u8 0);have⟨bn,m⟩:=eX (J 142 (X (aB (fZ p M x))));have⟨y,al,N,aw,ai,T,am,ao⟩:=Kq w 29 80 111 80 A b C L;have⟨bo,E⟩:=(tX p s.iE M x).1 an;rw[<-A,<-b,<-C,<-m];rw[<-L]at a7;rw[<-ab]at bj;have:=bT A (dr rfl);have:=bT b (dr rfl);have:=bT C (dr rfl);have bp:=bT L (dr rfl);have:=bT ab (dr rfl);have⟨t,F⟩:=eX x.t.toNat;rw[<-F]at bo E;have az:=s.iE;have ay:t<4:=by omega
 have ap:y.cell? (w.1.size+2:Nat)=some (.int .u8 (t:Int)):=by rw[T.C 0 (dr rfl),F];rfl
 have aG:y.cell? ⟨w.1.size+2,1,none⟩=some (.bool x.d):=T.C 1 (dr rfl);have⟨d,ad⟩:=eX x.d;rw[<-ad]at aG E;cases d with
 |true=>
  rw[aq rfl]at E;obtain⟨v,ak⟩:=E;have ae:fZ p M x=vB M t x.l:=by unfold fZ;rw[<-ad,aq rfl,F]
  rw[ae]at m;have c:Calls prog 142 #[.int .u8 3,.agg au,.agg bl] y (Rs (.agg bn) y):=by
   rw[b,C,m];exact afI p M x v y s aa ay F ak
  have f:=gQ N ai T am c (cD b) (cD C) m al;clear N aw ai T am c A b C L ab m al ag ah s aa ak an ae F ad az ao;go_enter func87,ntmps87
  go_upto_region 1 with fail
  rw[<-f.I]
  go_wp2_with (first|(refine br 0 142 f.b f.f (dr rfl) dN rfl cQ rfl ?_)|(refine br 0 3 f.c f.g (dr rfl) nD rfl ll rfl ?_)|(go_at_call 142;refine f.e.st fun aQ n=>?_)|(refine jS (X (aB (vB M t x.l))) (f.d.Z n f.d.lt) f.h cQ (fun i _=>lg _ _) rfl rfl ?_;intro af c q))
  refine bK (mT rfl _ c _ rfl dN rfl cQ) rfl ?_;have aI:=f.a.t (n.m f.a.size);exact⟨by rw[f.h],aI.b q aI.size (fun j e=>by cases e;omega)⟩
 |false=>
  rw[O (dr rfl)]at E;have⟨c,Q,aC⟩:=DL E.2;have⟨_,b0,aE⟩:=yR Q;have ak:=Bd s Q;have ae:fZ p M x=iX M t c:=by unfold fZ;rw[<-ad,O (dr rfl),<-F,Q]
  rw[ae]at m;have⟨R,ar⟩:=eX (iX M t c);rw[<-ar]at m;have bq:=aa.Bh s t;have:=Bu;have q:=gQ (ag.Z N (av _)) (ah.Z N) s aa Q ak aC ar aE;have f:=Cc N aw ai T am (cD A) (cD b) ab m ao b al;have bs:=aD A ag ah;have bt:=H (show bb.size=142 by rw[L,dF]);have bu:w.1.size+3<y.1.size:=by omega
  have z:=aY (by omega:y.1.size≠w.1.size+1) (by omega:y.1.size≠w.1.size+3) (by omega:y.1.size≠w.1.size) bu;clear N aw ai T am A b C L ab m al ag ah s aa an ae F ad az ao Q ak aC ar aE E;have az:(t:Int)<4:=by omega
  have aC:¬(4:Int)<=t:=by omega
  have aE:¬(t:Int)<0:=by omega
  have aF:IntKind.i64.wrap (t:Int)=t:=gw _ (by omega);go_enter func87,ntmps87
  go_upto_region 1 with fail
  rw[<-f.L];have b:(J 9 (cJ (M.C t)))=J 9 fun i=>X (aB M) (t*9+i):=(Kg M ay).s;have bv:=H b;clear b
  go_upto_region 5 with(first|(refine br (t*9) 9 f.c bv.y (by omega) qy rfl iT rfl ?_)|(refine mh (cJ (M.C t)) rfl (by rw[f.h,dF]) iT (fun i _=>Hl _ _) rfl rfl ?_;intro aQ b n))
  have a0:=b.lt;have m:=f.b.Z n f.b.lt;have cs:=f.c.Z n f.c.lt;have cr:=f.e.Z n f.e.lt;have s:=q.a.Z n (av _);have⟨bw,bx,bz,aR,co,b1,A,bF,C,bG,aJ⟩:=Ic s q.I;have:=(bL.1 q.I).1;have bI:=(yU (cB q.I)).1;have:=zB q.c t;have E:aQ.cell? ⟨w.1.size,3,none⟩=some (.slice (some ⟨bw,bx,none⟩) p.h.length bz):=(m.C 3 (dr rfl)).t (by rw[A]);have ap:aQ.cell? y=some (.int .u8 (Y (M.C t 0))):=b.C 0 (dr rfl);have F:¬(p.h.length:Int)<=t:=by omega
  have L:¬((bH p t).length:Int)<=Y (M.C t 0):=by unfold Y;omega
  have N:Y (M.C t 0)<((bH p t).length:Int):=by unfold Y;omega
  have T:(Y (M.C t 0)).toNat=(M.C t 0).toNat:=by unfold Y;omega
  have aa:(0:Int)<=Y (M.C t 0):=iW _;have ag:¬Y (M.C t 0)<0:=by omega
  have bJ:w.1.size<aQ.1.size:=by omega
  have bN:=H C;have ad:=dH b m cs cr (f.a.t (n.m f.a.size)) s aJ;clear b m cs cr s C aJ n A aG;refine Bl.sW 9 _ _ (.cells (aV ⟨0,0,0,⟨false,0⟩,⟨false,0⟩,0,0,0⟩) 36) (.cells (aV c) 36) (by kernel_rfl) (by kernel_rfl) rfl rfl (fun a W=>EX Bu (dr rfl) _ _ _ _ _ _) rfl rfl ?_;simp only[st1]
  repeat(first|(refine Lx rfl _ _ rfl aR (co+(M.C t 0).toNat*10) (aV c).toList rfl ad.G bG _ mr rfl kz ?_;simp only[o])|(refine Bl.dK rfl (fun W s=>by have g:=DB s;simp[execOp,go_sem,g,bJ,a0,bF,ap,E,bN.y,az,aC,aE,aF,F,L,N,T,aa,ag,bI];rfl) ?_;simp only[o]))
  refine Bl.kr ?_;intro ae;refine⟨Fe (.tmp 11) (.tmp 36) rfl ae _ _ rfl rfl (by kernel_rfl) rfl (by simp[aV,Value.oneCell']),?_⟩;intro af m ab C;have A:eO af ae c:=C;have b:=jR A (ad.a.Z m a0) (ad.c.Z m ad.c.lt) (ad.d.Z m ad.d.lt) (ad.e.t (m.m ad.e.size)) (ad.b.Z m ad.b.lt) (aO (Nat.le_of_lt_succ (Nat.lt_succ_of_lt a0)) ab) ab;have n:=A.cells;have al:af.cell? y=some (.int .u8 (Y (M.C t 0))):=b.b.C 0 (dr rfl);have bO:ae≠y.1.size/\ae≠w.1.size+1:=⟨by omega,by omega⟩
  clear A m C ap E F L N T aa ag;have⟨aK,m⟩:=eX c.op;rw[<-m]at n;have:=n.1;have:=n.2.1;have bP:=n.2.2.1;have F:=aA n m;clear n m
  go_upto_block 0 with fail
  have aS:=b.a.lt;have:=q.f.ok.dst;have d1:(Y c.dst).toNat=c.dst.toNat:=by unfold Y;omega
  have d2:Y c.dst<8:=by unfold Y;omega
  have d3:¬Y c.dst<0:=by have:=iW c.dst;omega
  have d4:¬(8:Int)<=Y c.dst:=by omega
  have d5:(0:Int)<=Y c.dst:=iW _;have m:∀(g:Nat->UInt8)(k:Nat)(v:UInt8)(i:Nat),aU (cJ g) k (.int .u8 (Y v)) i=cJ (P g k v) i:=fun g k v i=>by unfold aU cJ P;split<;>rfl
  have:IntKind.u8.wrap (Y (M.C t 0)+1)=Y (M.C t 0+1):=rj (M.C t 0) 1;have a1:=H m;clear m
  go_cut [] (fun m=>ax w y t R m)
  case first=>
   obtain e|e|e|e|e|e:=(iY q.f.ok.qf q.f.ok.iY)
   case inl=>
    rw[<-F.B]at e;have n:c.loc.toNat<6:=by have:=q.f.loc (.inl (by rw[<-F.B];exact e));have:=q.c.iG;omega
    have⟨aL,m⟩:=eX (pZ M t c.loc);have A:∀W,Calls prog 143 #[.agg au,.int .i64 t,.int .u8 (Y c.loc)] W fun r bQ=>r= .returned (.int .u8 (Y aL))/\Below W.1.size W bQ:=fun W=>by
     rw[f.k,m];exact Wq M t c.loc W ay bq n
    have bd:=aD A m e;clear A m n;subst e
    go_upto_region 9 with fail
    refine Bl.j2 9 (by kernel_rfl) (by kernel_rfl) ?_;simp only[st1]
    repeat(first|(refine li 0 142 b.c f.g (dr rfl) dN rfl cQ rfl ?_;simp only[o])|(refine Bl.dK rfl (fun W s=>by have aw:=s.C (p:=⟨ae,1,none⟩) aS;rw[F.a.2.1]at aw;have ai:=s.C (p:=⟨ae,2,none⟩) aS;rw[F.a.2.2.1]at ai;simp[execOp,go_sem,aw,ai,d1,d2,d3,d4,d5];rfl) ?_;simp only[o]))
    refine Bl.mZ 143 #[.agg au,.int .i64 t,.int .u8 (Y c.loc)] rfl (fun W=>by simp[execOp,go_sem]) (fun W s=>bd.a W) ?_;simp only[o]
    repeat(refine Bl.dK rfl (fun W s=>by simp[execOp,go_sem,d1,d2,d3,d4,d5];rfl) ?_;simp only[o])
    refine Bl.kr ?_;intro L m;refine kI (1+c.dst.toNat) (.int .u8 (Y aL)) (cJ (P (M.C t) (1+c.dst.toNat) aL)) (b.b.Z m b.b.lt) (by omega) nP rfl (fun i _=>a1.y _ _ _ _) rfl rfl ?_;intro aT ag E;have al:aT.cell? y=some (.int .u8 (Y (M.C t 0))):=(ag.C 0 (dr rfl)).t (by unfold cJ;rw[bf _ _ (by omega)]);have aG:=b.e.t (m.m b.e.size);have A:=aY ag ((b.c.Z m b.c.lt).K E (by intro e;injection e with e;exact z.a e.s)) ((b.d.Z m b.d.lt).K E (by intro e;injection e with e;exact z.b e.s)) (aG.b E aG.size (fun j e=>by cases e;have:=z.D;omega));clear ag E m aG
    go_wp2_with (refine kI 0 (.int .u8 (Y (M.C t 0+1))) (cJ (sJ c (M.C t) aL)) A.a (by omega) nP rfl (fun i _=>a1.y _ _ _ _) rfl rfl ?_;intro aZ C n)
    go_meet
    exact⟨M,sJ c (M.C t) aL,A.b.K n (by intro e;injection e with e;exact z.a e.s),C,A.c.K n (by intro e;injection e with e;exact z.b e.s),A.D.b n A.D.size (fun j e=>by cases e;have:=z.D;omega),by rw[q.h];unfold iX;rw[aq F.B.s,bd.b]⟩
   case inr.inl=>
    rw[<-F.B]at e;have ap:(M.I t).length<12:=by have:=q.d.len t;omega
    have ar:=q.d.wT t;have⟨aH,C⟩:=eX (kC (M.C t) c.a);have⟨be,N⟩:=eX (#[.bool c.a.cY,.int .u8 (Y c.a.n)]:Array Value);have⟨bS,aa⟩:=eX (J 8 fun i=>cJ (M.C t) (1+i));have⟨GE,ah⟩:=eX (J 2 (X (nW (c.loc,aH))));have⟨am,an⟩:=eX ({M with I:=P M.I t (oZ (M.I t) (c.loc,aH))}:Ms);have⟨ao,T⟩:=eX (J 142 (X (aB am)));have aM:∀W,Calls prog 144 #[.agg be,.agg bS] W (Rs (.int .u8 (Y aH)) W):=fun W=>by
     rw[N,aa,C];exact Dj c.a (uZ (M.C t)) W q.f.ok.a
    have aN:∀W,Calls prog 145 #[.int .u8 3,.agg au,.int .i64 t,.agg GE] W (Rs (.agg ao) W):=fun W=>by
     rw[f.k,ah,T,an];exact abj M t (c.loc,aH) W ay ap ar
    have aP:∀W,(Instr.build 75 #[(0,.int .u8 (Y c.loc)),(1,.int .u8 (Y aH))]).run prog W= .ok (.agg GE) W:=fun W=>by rw[aan,ah];rfl
    have n:=gQ aM aN aP (show be=J 2 fun i=>(aV c)[3+i]! from N) aa C an T e;clear aM aN aP aa C an T N ah ap ar;subst e
    go_upto_region 13 with(first|(refine br 3 2 b.a.r n.d (dr rfl) qO rfl rH rfl ?_)|(refine br 1 8 b.b n.e (dr rfl) vO rfl ud rfl ?_)|(go_at_call 144;refine(n.a _).st fun L m=>?_))
    have al:L.cell? y=some (.int .u8 (Y (M.C t 0))):=(m.C (p:=y) b.b.lt).t al;have N:L.cell? ⟨ae,2,none⟩=some (.int .u8 (Y c.loc)):=(m.C (p:=⟨ae,2,none⟩) aS).t bP;have C:=bM (b.b.Z m b.b.lt) (b.c.Z m b.c.lt) (b.d.Z m b.d.lt) (b.e.t (m.m b.e.size)) (aW aS m.size);clear m;have⟨f2,aa⟩:=eX (P (M.C t) 0 (M.C t 0+1))
    go_upto_region 14 with(refine kI 0 (.int .u8 (Y (M.C t 0+1))) (cJ f2) C.a (by omega) nP rfl (fun i _=>by rw[aa];exact a1.y _ _ _ _) rfl rfl ?_;intro aT ag E)
    have:aT.cell? ⟨ae,2,none⟩=some (.int .u8 (Y c.loc)):=(E.cell_far ⟨ae,2,none⟩ C.E (by intro e;injection e with e;exact bO.1 e)).t N;have A:=bM ag (C.b.K E (by intro e;injection e with e;exact z.a e.s)) (C.c.K E (by intro e;injection e with e;exact z.b e.s)) (C.d.b E C.d.size (fun j e=>by cases e;have:=z.D;omega)) aa;clear ag E aa al N
    go_wp2_with (first|(refine br 0 142 A.b f.g (dr rfl) dN rfl cQ rfl ?_)|(refine uj [(0,.int .u8 (Y c.loc)),(1,.int .u8 (Y aH))] _ (n.c _) rfl ?_)|(go_at_call 145;refine(n.b _).st fun aZ aX=>?_)|(refine jS (X (aB am)) (A.b.Z aX A.b.lt) n.h cQ (fun i _=>lg _ _) rfl rfl ?_;intro ap ah N))
    go_meet
    have aJ:=A.d.t (aX.m A.d.size);refine⟨am,f2,ah,(A.a.Z aX A.a.lt).K N (by intro e;injection e with e;exact z.a e),(A.c.Z aX A.c.lt).K N (sn (by omega)),aJ.b N aJ.size (fun j e=>by cases e;omega),?_⟩;rw[q.h,n.g,A.E,n.f];unfold iX;rw[O (by rw[<-F.B];decide),aq F.B.s];rfl
   case inr.inr.inl=>
    rw[<-F.B]at e;have ap:c.op=4\/c.op=5\/c.op=6:=by rw[<-F.B];exact e
    have⟨N,ah⟩:=eX (qY (ov M) t c:Ms);have⟨a2,ar⟩:=eX (J 142 (X (aB (ov M))));have⟨ao,T⟩:=eX (J 142 (X (aB N)));have aM:∀W,Calls prog 138 #[.agg au] W (Rs (.agg a2) W):=fun W=>by
     rw[f.k,ar];exact R4 M W
    have aN:∀W,Below af af W->Calls prog 146 #[.agg a9,.agg a2,.int .i64 t] W (Rs (.tuple #[.agg ao,.int .i64 0]) W):=fun W s=>by
     have aI:=b.e.t (s.m b.e.size);have a3:=bs.y;rw[a3.1,ar,T,ah];exact YF p g (ov M) t c W (a3.2.1.Z aI (av _)) (a3.2.2.Z aI) q.c q.d.bare (fun _=>rfl) q.e ap
    have n:=bM aM aN T ah ap;clear aM aN T ar ah ap;obtain e|e|e:=e
    all_goals
     subst e
     go_upto_region 20 with fail
     refine Bl.sW 8 _ _ (.cells bb 80) (.cells ao 80) (by kernel_rfl) (by kernel_rfl) rfl rfl (fun a W=>EX a7 bp _ _ _ _ _ _) rfl rfl ?_;simp only[st1];refine li 0 10 b.f f.f (dr rfl) fN rfl gC rfl ?_;simp only[o];refine li 0 142 b.c f.g (dr rfl) dN rfl cQ rfl ?_;simp only[o];refine Bl.mZ 138 #[.agg au] rfl (fun W=>by simp[execOp,go_sem]) (fun W s=>n.a W) ?_;simp only[o];refine Bl.dK rfl (fun W s=>by simp[execOp,go_sem];rfl) ?_;simp only[o];refine Bl.mZ 146 #[.agg a9,.agg a2,.int .i64 t] rfl (fun W=>by simp[execOp,go_sem]) (fun W s=>n.b W s) ?_;simp only[o]
     repeat(refine Bl.dK rfl (fun W s=>by simp[execOp,go_sem];rfl) ?_;simp only[o])
     refine Bl.kr ?_;intro af;have ah:ao.size=142:=by rw[n.c,dF]
     refine⟨Fe (.tmp 13) (.tmp 96) rfl af _ _ rfl rfl (by rw[ah];exact cQ) (by rw[ah];exact bt.y) (by rw[n.c];exact CU fun v ak=>by obtain⟨i,Q,rfl⟩:=bX.1 ak;rfl),?_⟩;intro L m ab ar;have aM:aj L af 80 142 (X (aB N)):=by
      show L.1[af]? =some (.cells (J 142 (X (aB N))) 80 (0,0));rw[<-n.c];exact ar
     have aN:=b.g;have aP:=b.c.lt;have aZ:=b.b.lt;have a4:=b.d.lt;have bg:af≠y.1.size/\af≠w.1.size+1/\af≠w.1.size+3:=⟨by omega,by omega,by omega⟩
     have C:=bM aM (b.b.Z m b.b.lt) (b.c.Z m b.c.lt) (b.d.Z m b.d.lt) (b.e.t (m.m b.e.size));clear aM m ar ah aP aZ a4 aN ab
     go_upto_region 21 with fail
     have⟨f2,aa⟩:=eX (N.C t);have⟨a4,ar⟩:=eX (J 9 (cJ f2));have⟨bU,a5⟩:=eX (J 6 fun i=>X (aB N) (36+i));have bh:a4=J 9 fun i=>X (aB N) (t*9+i):=by rw[ar,aa,Kg N ay]
     refine EF (S:=fun W=>aj W af 80 142 (X (aB N))) (by kernel_rfl) C.a ?_;intro ah;have ab:aj L.drew y.1.size 72 9 (cJ (M.C t))/\aj L.drew (w.1.size+1) 80 142 (X (aB M))/\aj L.drew (w.1.size+3) 80 142 (X fun _=>0)/\Below w w L.drew:=⟨C.b,C.c,C.d,⟨C.E.os,C.E.tape,C.E.output,C.E.size,C.E.block⟩⟩
     have aM:=H ab;clear ab;generalize L.drew=b2 at*
     refine dY 0 (.int .i64 t) (by simp only[u];rfl) (by kernel_rfl) (by exact fun _ _ _ h=>h) (.inl ⟨by rfl,fun W s=>by simp[execOp,go_sem,az,aC,aE,aF]⟩) ah ?_;simp only[o];refine dY 1 (.pointer af) (by simp only[u];rfl) (by kernel_rfl) (by exact fun _ _ _ h=>h) (.inl ⟨by rfl,fun W s=>by simp[execOp,go_sem,az,aC,aE,aF]⟩) ah ?_;simp only[o];refine dY 2 (.pointer (some ⟨af,t*9,none⟩)) (by simp only[u];rfl) (by kernel_rfl) (by exact fun _ _ _ h=>h) (.inl ⟨by rfl,fun W s=>by simp[execOp,go_sem,az,aC,aE,aF]⟩) ah ?_;simp only[o];refine dY 3 (.agg a4) (by simp only[u];rfl) (by kernel_rfl) (by exact fun _ _ _ h=>h) (Pu (t*9) 9 (fun W s=>s) bh (by omega) qy rfl iT rfl) ah ?_;simp only[o];refine dY 4 (.pointer (some ⟨af,36,none⟩)) (by simp only[u];rfl) (by kernel_rfl) (by exact fun _ _ _ h=>h) (.inl ⟨by rfl,fun W s=>by simp[execOp,go_sem,az,aC,aE,aF]⟩) ah ?_;simp only[o];refine dY 5 (.agg bU) (by simp only[u];rfl) (by kernel_rfl) (by exact fun _ _ _ h=>h) (Pu 36 6 (fun W s=>s) a5 (dr rfl) BC rfl xx rfl) ah ?_;simp only[o];refine mS (rs:=[6]) (by kernel_rfl) (by simp) (lv (by simp only[u];rfl) (fun bi aZ=>?_) mE);refine CM rfl 72 (.tmp 10) (.tmp 101) rfl y.1.size 0 9 9 72 (cJ (M.C t)) (cJ f2) rfl (cg Value.agg ar) aM.a (dr rfl) iT (fun i _=>rfl) ?_;intro b3 aN ab;have aP:=aY aN (aM.b.K ab (by intro e;injection e with e;exact z.a e.s)) (aM.c.K ab (by intro e;injection e with e;exact z.b e.s)) (aM.D.b ab aM.D.size (fun j e=>by cases e;have:=z.D;omega));refine aZ.y _ _ (ah.K ab (by intro e;injection e with e;exact bg.1 e)) fun a6=>?_;clear aZ bi aN ab;simp only[o];refine dY 7 (.pointer (some ⟨w.1.size+1,36,none⟩)) (by simp only[u];rfl) (by kernel_rfl) (by exact fun _ _ _ h=>h) (.inl ⟨by rfl,fun W s=>by simp[execOp,go_sem,az,aC,aE,aF]⟩) a6 ?_;simp only[o];refine mS (rs:=[8]) (by kernel_rfl) (by simp) (lv (by simp only[u];rfl) (fun bV s=>?_) mE);refine CM rfl 56 (.tmp 104) (.tmp 103) rfl (w.1.size+1) 36 6 142 80 (X (aB M)) (fun i=>X (aB N) (36+i)) rfl (cg Value.agg a5) aP.b (dr rfl) xx (fun i _=>rfl) ?_;intro bY aN ab;have⟨am,an⟩:=eX ({M with mem:=N.mem}:Ms);have bi:aj bY (w.1.size+1) 80 142 (X (aB am)):=aN.congr fun i Q=>by rw[an];exact ab3 M N.mem (fun l aZ=>by unfold X;rw[ox N aZ]) i Q
     have aZ:=aY bi (aP.a.K ab (by intro e;injection e with e;exact z.a e)) (aP.c.K ab (sn (by omega))) (aP.D.b ab aP.D.size (fun j e=>by cases e;omega));refine s.y _ _ (a6.K ab (by intro e;injection e with e;exact bg.2.1 e)) fun bZ=>?_;clear s bV aN ab bi;simp only[o];refine Fi (by kernel_rfl) ?_ _;have ab:qj am t f2=R:=by
      rw[q.h,an,aa,n.d];unfold iX;have ap:=n.E;rw[O (by obtain h|h|h:=ap<;>rw[h]<;>decide),O (by obtain h|h|h:=ap<;>rw[h]<;>decide),O (by unfold oB;obtain h|h|h:=ap<;>rw[h]<;>decide)];unfold qY qj ov;simp only[bc]
     have bi:=H ab;clear ab an aa ar a5 bh ah a6 bZ;go_wp2
     go_meet
     refine⟨am,f2,aZ.a,aZ.b.congr fun i Q=>by unfold bm;rw[aq ⟨by omega,by omega⟩,ez],aZ.c,aZ.D,bi.y⟩
   all_goals
    have s:c.op≠1/\c.op≠2/\oB c=true:=by unfold oB;rw[e];decide
    have a6:aK≠1/\aK≠2/\aK≠4/\aK≠5/\aK≠6:=by rw[F.B,e];decide
    rw[<-F.B]at e;have⟨f2,aa⟩:=eX (l9 c (M.C t));have⟨aN,ah⟩:=eX (aV c);have⟨bh,an⟩:=eX (J 9 (cJ (M.C t)));have⟨ao,T⟩:=eX (J 9 (cJ f2));have a5:∀W,Calls prog 147 #[.agg aN,.agg bh] W (Rs (.tuple #[.agg ao,.bool true]) W):=fun W=>by
     have:=OL c (M.C t) W q.f.ok ⟨q.f.f3,fun h=>(q.f.f8 h).1⟩;rw[s.2.2]at this;rw[ah,an,T,aa];exact this
    have n:=dC a5 (show aN=J 10 fun i=>(aV c)[0+i]! from ah) (cD an) T aa s;clear a5 an T aa s ah a6;subst e
    go_wp2_with (first|(refine br 0 10 b.a.r n.b (dr rfl) mr rfl kz rfl ?_)|(refine br 0 9 b.b n.c (dr rfl) qy rfl iT rfl ?_)|(go_at_call 147;refine(n.a _).st fun L m=>?_)|(refine jS (cJ f2) (b.b.Z m b.b.lt) n.d iT (fun i _=>Hl _ _) rfl rfl ?_;intro aT ag E))
    go_meet
    have aG:=b.e.t (m.m b.e.size);refine⟨M,f2,(b.c.Z m b.c.lt).K E (by intro e;injection e with e;exact z.a e.s),ag,(b.d.Z m b.d.lt).K E (by intro e;injection e with e;exact z.b e.s),aG.b E aG.size (fun j e=>by cases e;have:=z.D;omega),?_⟩;rw[q.h,n.e];unfold iX;rw[O n.f,O n.g,aq n.H]
  obtain⟨ah,T,cs,al,cr,aR,ab⟩:=hcut;have⟨a4,ar⟩:=eX (J 9 (cJ T));have s:=dH cs al cr aR ar (cD ar) (cD f.i);have an:=H ab;clear cs al cr aR ar ab
  go_wp2_with (first|(refine br 0 9 s.b s.f (dr rfl) qy rfl iT rfl ?_)|(refine yb (t*9) 9 (cJ T) (X (aB R)) s.a s.e (by omega) iT (fun i _=>rfl) (fun i Q=>by rw[x7,SU ah ay T i Q,an.y]) rfl rfl ?_;intro aR ab aa)|(refine br 0 142 ab s.G (dr rfl) dN rfl cQ rfl ?_)|(refine jS (X (aB R)) (s.c.K aa (sn (by omega))) f.i cQ (fun i _=>rfl) rfl rfl ?_;intro a5 al ar))
  refine bK (mT rfl _ al _ rfl dN rfl cQ) rfl ?_;have ab:=s.d.b aa s.d.size (fun j e=>by cases e;omega);exact⟨by rw[f.i],ab.b ar ab.size (fun j e=>by cases e;omega)⟩
end
section
attribute [local irreducible] Code.wp wpList Oper.wp wpQuiet
def af7(base)(v)(l:List Ps)(x)(w)(g:w.ownsRow base 111 3 v l (jy l))(P:l.length<=1000)(s:x∈l):
 Calls prog 141 #[v,(J 3 (ig x))] w fun e Q=>(∃k:Nat,e=(Value.int .i64 k))/\Below w w Q:=by
 obtain⟨A,c,rfl,m⟩:=Ee g;have⟨n,b⟩:=eX (J 3 (ig x));have⟨h,j⟩:=eX (w.alloc (.cells n 111));have t:Below w w h:=by rw[j];exact ba w _
 have u:aj h w 111 3 (ig x):=by rw[j];exact aj.dq w _ 3 _ n b
 rw[<-b];have:=bT b (dr rfl);have⟨f,r⟩:=eX l.length;rw[<-r]at P m⊢;have a:=dH t u m r s (cD b) j;have R:=H (b.t (xC x).s);clear t u m r s b j g;go_enter func141,ntmps141
 go_upto_region 1 with fail
 rw[<-a.G];go_wp2
 go_loopw [8] (fun i wr=>∃k,k<=f/\i= .int .i64 k/\Below h h wr/\x∈l.drop k) (fun i _=>f-(intOf i).toNat)
 case atStart=>exact⟨0,aQ _,rfl,aP _ _,by simpa using a.e⟩
 obtain⟨k,aa,rfl,j,r⟩:=hrel;have F:k<f:=by
  have T:=TH r;rw[Gn,<-a.d]at T;omega
 obtain⟨y,s⟩:∃y,l[k]? =some y:=⟨_,aI (by rw[<-a.d];exact F)⟩
 obtain⟨m,rfl,_,t,I⟩:=a.c (by omega);have L:=I k y s;have⟨M,u⟩:=eX (gU y);have⟨N,z⟩:=eX (decide (x=y));have:∀W,(binOp .eql 111 (.agg n) (.agg M)).run prog W= .ok (.bool N) W:=fun W=>by rw[R.y,u,z];exact(NU x y W).1
 have C:=a.a.t (j.m a.a.size);have O:∀W',(∃q:Regrown,W'=Go.Sort.grow (redrawn wr q.d) q.os)->W'.rangeAt m (k*3) (gU y).toList:=by
  rintro W' ⟨q,rfl⟩ E X g;exact((jO wr q.d q.os).C (p:=⟨m,k*3+E,none⟩) (aW t C.size)).t ((C.C (p:=⟨m,k*3+E,none⟩) t).t (L E X g))
 have b:=dH j r s u z O (AP (a.b.Z j a.b.lt));have:(k:Int)<f:=by omega
 have:¬(k:Int)<0:=by omega
 have:¬(f:Int)<=k:=by omega
 clear j r s u z O I L C t
 go_upto_region 4 with fail
 refine bV (by kernel_rfl) ?_
 repeat(first|((with_reducible refine Dm _ ?_);refine Bp rfl 0 3 b.G a.f (dr rfl) nD rfl ll rfl ?_;simp only[o])|(refine yY rfl 111 (.tmp 14) rfl m (k*3) rfl _ M b.d _ nD rfl ll b.f ?_;simp only[o])|go_big_quiet_step (fail))
 refine qn fun W s=>?_;have j:=H (b.a.t (s.m b.a.size));cases N with
 |true=>
  go_wp2;go_ret;exact⟨⟨k,rfl⟩,a.a.t (j.y.m a.a.size)⟩
 |false=>
  go_wp2;refine⟨⟨k+1,by omega,by go_num,j.y,?_⟩,by simp[intOf];omega⟩;have r:=b.b;rw[zD (by rw[<-a.d];exact F)]at r;obtain e|e:=fI.1 r
  .have:=b.c;have:=b.e
   grind
  exact e
def aaF(base)(v)(l:List Ps)(x)(w)(i:w.ownsRow base 111 3 v l (jy l))(o:l.length<=1000)(j:x∈l):
 Calls prog 86 #[v,(J 3 (ig x))] w (Rs true w):=by
 have⟨m,b⟩:=eX (J 3 (ig x));have⟨f,c⟩:=eX (w.alloc (.cells m 111));have g:Below w w f:=by rw[c];exact ba w _
 have n:aj f w 111 3 (ig x):=by rw[c];exact aj.dq w _ 3 _ m b
 have h:=af7 base v l x f (bP i g) o j;rw[<-b]at h⊢;have:=bT b (dr rfl);have a:=bM g n h (cD b) c;clear g n h j b c i;go_enter func86,ntmps86
 go_upto_region 1 with fail
 rw[<-a.E]
 go_wp2_with (first|(refine br 0 3 a.b a.d (dr rfl) nD rfl ll rfl ?_)|(go_at_call 141;refine a.c.m ?_;rintro e c ⟨⟨k,rfl⟩,b⟩;have:(0:Int)<=k:=by omega))
 go_ret;exact⟨rfl,a.a.t (b.m a.a.size)⟩
def TZ{p}{M}(a:cO p)(b:dW p M):(di p M).length<=100:=by
 have:=KJ p M (b.Bh a) p.h;have:=a.iE;unfold di;omega
def T3(p)(g)(M)(w)(i:eE w g p)(j:jH w g)(l:cO p)(m:dW p M):
 Calls prog 35 #[(J 10 g),.int .u8 3,(J 142 (X (aB M)))] w fun e f=>∃v,e= .returned v/\f.ownsRow ↑w 111 3 v ↑(di p M) (jy (di p M))/\Below ↑w w f:=by
 have⟨n,b⟩:=eX (J 10 g);have⟨o,c⟩:=eX (J 142 (X (aB M)));have⟨y,q,r,s,t,z⟩:=si w 29 80 b c;have u:∀W,Below w w W->Calls prog 84 #[n,.int .u8 3,o] W (Rs true W):=fun W h=>by
  rw[b,c];exact Vk p g M W (i.Z h (av _)) (j.Z h) l m
 have x:∀W,Below w w W->Calls prog 85 #[n,.int .u8 3,o] W fun e f=>∃v,e= .returned v/\f.ownsRow ↑W 111 3 v ↑(di p M) (jy (di p M))/\Below W W f:=fun W h=>by
  rw[b,c];exact adb p g M W (i.Z h (av _)) l m
 rw[<-b,<-c];have:=bT b (dr rfl);have:=bT c (dr rfl);have a:=jR r s t u x (cD b) (cD c) q;clear r s t u x i j b c q;go_enter func35,ntmps35
 go_upto_region 1 with fail
 rw[<-a.H]
 go_upto_region 3 with(first|(refine br 0 10 a.b a.f (dr rfl) fN rfl gC rfl ?_)|(refine br 0 142 a.c a.g (dr rfl) dN rfl cQ rfl ?_)|(go_at_call 84;refine(a.d _ a.a).st fun q c=>?_))
 have b:=aD (a.b.Z c a.b.lt) (a.c.Z c a.c.lt) (a.a.t (c.m a.a.size))
 go_wp2_with (first|(refine br 0 10 b.a a.f (dr rfl) fN rfl gC rfl ?_)|(refine br 0 142 b.b a.g (dr rfl) dN rfl cQ rfl ?_)|(go_at_call 85;refine(a.e _ b.C).m ?_;rintro e r ⟨v,rfl,i,j⟩))
 go_ret;exact⟨_,rfl,ft i b.C.size,b.C.t (j.m b.C.size)⟩
def aam(p)(g)(M)(x)(w)(u:eE w g p)(m:jH w g)(n:cO p)(q:dW p M)(y:x∈di p M):
 Calls prog 37 #[(J 10 g),.int .u8 3,(J 142 (X (aB M))),(J 3 (ig x))] w fun e r=>e= .returned (.tuple #[.agg (J 142 (X (aB (fZ p M x)))),.int .i64 0])/\Below ↑w w r:=by
 have ab:=ql;have⟨z,c⟩:=eX (J 10 g);have⟨A,f⟩:=eX (J 142 (X (aB M)));have⟨C,l⟩:=eX (J 3 (ig x));have⟨ag,s⟩:=eX (J 142 (X fun _=>0));have⟨ad,t⟩:=eX (J 142 (X (aB (fZ p M x))));have⟨H,I,N,O,P,Q,R,ae⟩:=Kq w 29 80 111 80 c f l s;have E:∀W,Below w w W->Calls prog 35 #[z,.int .u8 3,A] W fun e r=>∃v,e= .returned v/\r.ownsRow ↑W 111 3 v ↑(di p M) (jy (di p M))/\Below W W r:=fun W b=>by
  rw[c,f];exact T3 p g M W (u.Z b (av _)) (m.Z b) n q
 have T:∀W,Below w w W->Calls prog 87 #[z,.int .u8 3,A,C] W (Rs ad W):=fun W b=>by
  rw[c,f,l,t];exact acS p g M x W (u.Z b (av _)) (m.Z b) n q y
 have F:∀v W,W.ownsRow 0 111 3 v (di p M) (jy (di p M))->Calls prog 86 #[v,C] W (Rs true W):=fun v W af=>by
  rw[l];exact aaF _ v _ x W af (by have:=TZ n q;omega) y
 rw[<-c,<-f,<-l,<-t];rw[<-s]at ab;have:=bT c (dr rfl);have:=bT f (dr rfl);have:=bT l (dr rfl);have:=bT s (dr rfl);have⟨L,aa⟩:=eX (di p M);rw[<-aa]at E F;have a:=J0 N O P Q R E T F (cD c) (cD f) (cD l) t I;clear N O P Q R E T F u m n q y aa c f l s t I ae;go_enter func37,ntmps37
 go_upto_region 1 with fail
 rw[<-a.M];refine Bo.j2 (jY H) (pW H) (show Below _ _ _ from⟨rfl,rfl,rfl,av _,fun _ _=>rfl⟩) 6 (by kernel_rfl) (by kernel_rfl) ?_;simp only[st1];refine J1 0 10 a.b a.i (dr rfl) fN rfl gC rfl ?_;simp only[o];refine Bo.i rfl (fun W b=>by simp[execOp,go_sem];rfl) ?_;simp only[o];refine J1 0 142 a.c a.j (dr rfl) dN rfl cQ rfl ?_;simp only[o];refine wQ (fun v W=>W.ownsRow 0 111 3 v L (jy L)) (fun _=>True) 35 #[z,.int .u8 3,A] rfl rfl (fun W W' h c=>trivial) (fun v W W' h c=>bP h c) (fun v W h=>trivial) ⟨undef,trivial⟩ (fun W=>by simp[execOp,go_sem])
  (fun W b _=>(a.f W (a.a.t (b.m a.a.size))).m fun e W' ⟨v,f,n,l⟩=>⟨v,f,ft n (aQ _),l⟩) (fun n _=>?_)
 simp only[o];refine J1 0 3 a.d a.k (dr rfl) nD rfl ll rfl ?_;simp only[o];refine Bo.aC 86 #[n,C] rfl rfl (fun W W' h c=>h.t (c.m h.size)) (fun W=>by simp[execOp,go_sem]) (fun W b m=>a.h n W m.2) ?_;simp only[o];refine Bo.oQ ?_;intro u f _;have f:=f;have c:=bM (a.b.Z f a.b.lt) (a.c.Z f a.c.lt) (a.d.Z f a.d.lt) (a.e.Z f a.e.lt) (a.a.t (f.m a.a.size))
 go_wp2_with (first|(refine br 0 10 c.a a.i (dr rfl) fN rfl gC rfl ?_)|(refine br 0 142 c.b a.j (dr rfl) dN rfl cQ rfl ?_)|(refine br 0 3 c.c a.k (dr rfl) nD rfl ll rfl ?_)|(go_at_call 87;refine(a.g _ c.E).st fun y q=>?_)|(refine jS (X (aB (fZ p M x))) (c.d.Z q c.d.lt) a.l cQ (fun i _=>lg _ _) rfl rfl ?_;intro E s t))
 refine bK (oT rfl _ s _ rfl dN rfl cQ) rfl ?_;have l:=c.E.t (q.m c.E.size);exact⟨by rw[a.l];rfl,l.b t l.size (fun j e=>by grind)⟩
end
def kS(s:St):Lit:= .string (keyBytes ((List.range 142).map fun i=> .int .u8 (Y (s i))))
def bR(v:Value):Option (DataW Unit×List MemPlace):=match v with
 | .bool b=>some (.lit (.bool b),[])
 |_=>none
def su(p:a8)(D:DataW Unit)(L:List Ms):Prop:=∀M,gA p M->(M∈L->D.atKey (kS (aB M)) (.lit (.bool false))= .lit (.bool true))/\(M∉L->D.atKey (kS (aB M)) (.lit (.bool false))= .lit (.bool false))
def oe(M:Ms):List Value:=(List.range 142).map (X (aB M))
def rL(L:List Ms):List Value:=L.flatMap oe
def zG(M):(oe M).length=142:=by unfold oe;simp
def Vl(L)(M):rL (L++[M])=rL L++oe M:=by unfold rL;rw[oI];simp
def afM{L}{k}{M}(h:L[k]? =some M)(j)(b:j<142):(rL L)[k*142+j]? =some (X (aB M) j):=by
 induction L generalizing k with
 |nil=>cases h
 |cons y l a=>
  unfold rL;rw[uz];cases k with
  |zero=>
   unfold oe
   grind
  |succ k=>
   rw[kB (by rw[zG];omega),zG,show(k+1)*142+j-142=k*142+j by omega];exact a h
def aeW(M):(oe M).toArray=J 142 (X (aB M)):=rfl
def aaZ(M):∀u∈oe M,u.oneCell'=true:=by
 intro u a;obtain⟨i,_,rfl⟩:=bX.1 a;rfl
def DI:Maps.Keyed prog 80:=Maps.Keyed.of_law (deep_law_laid (by kernel_rfl) (m:=5) (by omega) (mf (by kernel_rfl)) (by kernel_rfl) (by kernel_rfl))
def yW(s):keyOf prog 80 (J 142 (X s))=some (kS s):=
 Fl.aaR (P:=prog) (t:=80) (ks:=List.replicate 142 (some .u8)) (by kernel_rfl) (by kernel_rfl) (by kernel_rfl) (by kernel_rfl) (xs:=J 142 (X s)) (by
   have:=Fl.EN (List.replicate 142 (some .u8)) (X s) (fun i=> .int .u8 (Y (s i))) (fun i k a=>by
    have:=(Ht.1 (cB a)).2;subst this;exact xn _)
   rw[sg];exact this)
def S5(s):WideAt.IsKeyLit (kS s):=DI.key (yW s)
def KH{p}(a:cO p){M M'}(h:gA p M)(b:gA p M')(e:kS (aB M)=kS (aB M')):M=M':=by
 have c:=yW (aB M);rw[e]at c;have:=DI.inj c (yW (aB M'));injection this with this;exact U6 a (h.ok a) (h.Ua a) (b.ok a) (b.Ua a) fun i f=>by
  have:=FW this i f;injection this with _ this;exact lQ.1 this
def Mr:prog.underlying 171=some (.map 80 4):=by kernel_rfl
def su.start{p}(f:cO p):su p ((DataW.map []).put (kS (aB (iO p))) (.lit (.bool true))) [iO p]:=fun M g=>by
 constructor
 .intro h;obtain rfl:=lh.1 h;exact Maps.atKey_put_same ⟨_,rfl⟩ (S5 _) _ _
 intro h;rw[LV (fun e=>h (lh.2 (KH f g .start e)))];rfl
def su.more{p}(o:cO p){D}{L}{N}(h:su p D L)(u:Maps.IsMap D)(r:gA p N):su p (D.put (kS (aB N)) (.lit (.bool true))) (L++[N]):=fun M f=>by
 constructor
 .intro g;by_cases e:M=N
  .subst e;exact Maps.atKey_put_same u (S5 _) _ _
  rw[LV (fun i=>e (KH o f r i))];refine(h M f).1 ?_
  grind
 intro g;rw[LV (fun i=>g (AI _ (lh.2 (KH o f r i))))];exact(h M f).2 fun i=>g (rP _ i)
def Ws{p}{D}{L}{W}{mb n}(h:W.ownsMap prog 80 bR mb n D)(e:su p D L){M}(f:gA p M):∃b:Bool,(b=true↔M∈L)/\(Instr.lookup 171 (.map (some mb)) (J 142 (X (aB M))) false).run prog W= .ok b W:=by
 have⟨v,ps,j,g⟩:=h.lookup DI Mr (show(zeroValue 4).run prog W= .ok (.bool false) W by kernel_rfl) (show bR (.bool false)=some (.lit (.bool false),[])from rfl) (yW (aB M));have:∀b,bR v=some (.lit (.bool b),ps)->v= .bool b:=fun b a=>by
  cases v with
  |bool c=>unfold bR at a;injection a with a;injection a with a _;injection a with a;injection a with a;rw[a]
  |_=>unfold bR at a;cases a
 by_cases i:M∈L
 .rw[(e M f).1 i]at g
  grind
 rw[(e M f).2 i]at g
 grind
def xJ{W:World}{base n b m}{e}{size}{v}{xs}{H}{P}{k}{R}{D:DataW H}(h:W.ownsRow base e size v n xs)(g:W.ownsMap P k R b m D):some b≠v.ownBlock:=by
 intro f;obtain⟨es,c,i,_⟩:=g;obtain⟨a,_⟩|⟨j,l,o,a,_,p,_⟩:=h.2
 .subst a;cases f
 subst a;have:=aR f
 grind
def AA{W}{b m c n}{t}{g}{H}{P}{k}{R}{D:DataW H}(a:aj W c t n g)(e:W.ownsMap P k R b m D):b≠c:=by
 rintro rfl;obtain⟨es,f,h,_⟩:=e;have a:W.1[b]? =some _:=a
 grind
def LR{W:World}{base}{v}{L}(e:W.ownsRow base 80 142 v L.length (rL L)){k}{M}(f:L[k]? =some M):∃b a,v= .slice (b:Nat) L.length a/\b<W.1.size/\W.rangeAt b (k*142) (oe M):=by
 have:=(bL.1 f).1;obtain⟨_,c⟩|⟨g,a,m,c,n,i,_⟩:=e.2
 .omega
 refine⟨g,a,c,(gS.1 i).1,fun j u h=>?_⟩;have l:j<142:=by have:=(bL.1 h).1;rwa[zG]at this
 have:=e.cells (g:=g) (by rw[c];rfl) (k*142+j) _ (afM f j l);rw[eV,cK]at this;rw[this,<-h];unfold oe
 grind
def Tq:(prog.info? 80).map (fun i=>(i.zero,i.size,i.bytes))=some (some (.agg (J 142 (X fun _=>0))),142,142):=by kernel_rfl
def P3:prog.underlying 63=some (.slice 80):=by kernel_rfl
def QF:(prog.info? 170).map (fun i=>(i.zero,i.size,i.bytes))=some (some (.agg #[.int .i64 0,.int .u8 0,.bool false,.int .u8 0]),4,16):=by kernel_rfl
def QQ:prog.underlying 64=some (.slice 170):=by kernel_rfl
def eT(a b c:Value)(i:Nat):Value:=if i=0 then a else if i=1 then b else c
def LN(w):(zeroValue 67).run prog w= .ok (.agg #[nS,nS,nS]) w:=by kernel_rfl
def wO:prog.underlying 67=some (.struct (prog.fieldsOf 67)):=by kernel_rfl
def ow:(prog.info? 67).map (·.size)=some 3:=by kernel_rfl
def XW(k)(x)(w):(Instr.build 170 #[(0,.int .i64 k),(1,.agg (gU x))]).run prog w= .ok (.agg #[k,x.t,x.d,x.l]) w:=by kernel_rfl
structure rq(w1 W:World)(p:a8)(FB mb aJ:Nat)(L:List Ms)(E:List Nat)(vl vk ve:Value):Prop where
 fb:aj W FB 67 3 (eT vl vk ve)
 fl:w1.1.size<=FB/\w1.1.size<=mb
 l:W.ownsRow w1.1.size 80 142 vl L.length (rL L)
 k:∃ks,W.ownsRow w1.1.size 170 4 vk L.length ks
 e:W.ownsRow w1.1.size 3 1 ve E.length (nums E)
 m:∃D,W.ownsMap prog 80 bR mb L.length D/\Maps.IsMap D/\su p D L
 len:L.length<=aJ
 y:Below w1 w1 W
def rq.Z{w1 W W'}{p}{FB mb aJ}{L}{E}{vl vk ve}(h:rq w1 W p FB mb aJ L E vl vk ve)(f:Below W.1.size W W'):rq w1 W' p FB mb aJ L E vl vk ve:=by
 have⟨ks,g⟩:=h.k;have⟨D,i,o,r⟩:=h.m;exact⟨h.fb.Z f h.fb.lt,h.fl,bP h.l f,⟨ks,bP g f⟩,bP h.e f,⟨D,MG i f,o,r⟩,h.len,h.y.t (f.m h.y.size)⟩
end Go.Proofs.YtilhngjecfdgpaaGreatDoor
