/- Part 4 of 9 of the proof of seisintop.TopPSO (theorem topPSO.card, at the end of the last part), its names and blanks shortened by a program to fit a claim's bound; it holds the texts Gh Gi Gj Gk Gl Gm Gn Gp Go Ha Hb Ia Ib Ic Id Ie, one behind the other. -/
import Derived.Test.YtilhngjecfdgpaaGreatDoorTc
set_option linter.all false
set_option linter.defProp false
set_option linter.unusedVariables false
set_option linter.unusedSimpArgs false
set_option maxRecDepth 100000
set_option maxHeartbeats 16000000
namespace Go.Proofs.YtilhngjecfdgpaaGreatDoor
open Go.RowKit Go.Shelf Go.Proofs.Tryz
def kF(a b c e:Value)(f:Nat->UInt8)(i:Nat):Value:=if i=0 then a else if i=1 then b else if i=2 then c else if i=3 then e else .int .u8 (Y (f (i-4)))
def ES(ve vd vc vm)(f):mY ve vd vc vm f=(List.range 12).map (kF ve vd vc vm f):=rfl
def Aq(W:World)(A:Option Addr)(ps:List Path):Prop:=
 0<ps.length->∃b a,A=some ⟨b,a,none⟩/\b<W.1.size/\∀k q,ps[k]? =some q->∃c e f g,(∀j,j<12->W.cell? ⟨b,a+k*12+j,none⟩=some (kF c e f g q.L j))/\W.ownsRow 0 143 7 c q.F.length (tu q.F)/\
  W.ownsRow 0 275 2 e q.data.length (jA q.data)/\W.ownsRow 0 275 2 f q.A.length (jA q.A)/\W.ownsRow 0 275 2 g q.dP.length (jA q.dP)
def Aq.Z{n}{W W'}{A}{ps}(h:Aq W A ps)(f:Below n W W')(M:W<=n):Aq W' A ps:=by
 intro g;obtain⟨b,off,rfl,i,o⟩:=h g;refine⟨b,off,rfl,aW i f.size,fun k q r=>?_⟩;have⟨u,w,y,C,E,F,H,I,J⟩:=o k q r;have key:∀(e:TypeId)(s:Nat)(v:Value)(m:Nat)(xs:List Value),W.ownsRow 0 e s v m xs->W'.ownsRow 0 e s v m xs:=fun e s v m xs h=>dJ h fun b _ N=>f.block b (by omega);exact⟨u,w,y,C,fun j L=>(f.C (p:=⟨b,off+k*12+j,none⟩) (by grind)).t (E j L),key _ _ _ _ _ F,key _ _ _ _ _ H,key _ _ _ _ _ I,key _ _ _ _ _ J⟩
def jg(n:Int):XE:=⟨n,fun _=>E,fun _=>0,fun _=>0⟩
def Kn(w):(zeroValue 93).run prog w= .ok (J 336 (mG (jg 0) nS nS nS nS)) w:=by kernel_rfl
def VF(w):(Instr.build 93 #[]).run prog w= .ok (J 336 (mG (jg 0) nS nS nS nS)) w:=by kernel_rfl
def X7(n:Int)(w:World):(Instr.build 93 #[(0,.agg (J 333 (iu n)))]).run prog w= .ok (J 336 (mG (jg n) nS nS nS nS)) w:=by kernel_rfl
def acu(ev)(o)(w)(a:o.op= .build 93 #[]):(execOp ev o).run prog w= .ok (.value (J 336 (mG (jg 0) nS nS nS nS))) w:=by
 have:=VF w;unfold execOp;simp_all
def Za(n)(ev)(o)(w)(a:o.op= .build 93 #[(0,.tmp 39)])(h:ev (.tmp 39)= .agg (J 333 (iu n))):(execOp ev o).run prog w= .ok (.value (J 336 (mG (jg n) nS nS nS nS))) w:=by
 have:=X7 n w;unfold execOp;simp_all
def Ea:prog.underlying 93=some (.struct (prog.fieldsOf 93)):=by kernel_rfl
def NC:(#[nS,nS,nS,nS,.int .u8 0,.int .u8 0,.int .u8 0,.int .u8 0,.int .u8 0,.int .u8 0,.int .u8 0,.int .u8 0]:Array Value)=J 12 (kF nS nS nS nS fun _=>0):=rfl
def oT{P:Program}{fn}{p q:Tmp}{ty}(h:fn.results=#[.cell p ty,.tmp q])(tmps){w}{b n}{t}{g}(a:aj w b t n g)(d:TypeDesc)
 (f:tmps.getD p undef= .pointer b)(c:P.underlying ty=d)(i:d.isRow=true)(j:(P.info? ty).map (·.size)=n):(results fn tmps).run P w= .ok (.tuple #[(J n g),tmps.getD q undef]) w:=by
 have e:tmps[p]?.getD undef= .pointer b:=by simp_all
 simp[results,h,e,asAddr,(vW (P:=P) w b t ty (J n g) (0,0) d a c (by grind) (by simp_all))]
def L2(ve vd vc vm)(f)(a:ve.oneCell'=true)(b:vd.oneCell'=true)(c:vc.oneCell'=true)(e:vm.oneCell'=true)(i):(kF ve vd vc vm f i).oneCell'=true:=by
 unfold kF;split;·exact a
 split;·exact b
 split;·exact c
 split
 .exact e
 rfl
def T8{W:World}{b o}{g}(h:∀j,j<12->W.cell? ⟨b,o+j,none⟩=some (g j)):W.rangeAt b o ((List.range 12).map g):=by
 intro j v a
 grind
def j7(a:List aN):List Value:=a.flatMap fun x=>(List.range 7).map (a6 x)
def aeX(F)(x):j7 (F++[x])=j7 F++(List.range 7).map (a6 x):=by unfold j7;rw[oI];simp
def JN(F):(j7 F)=F.length*7:=by
 unfold j7
 induction F with
 |nil=>rfl
 |cons x t a=>simp only[uz,dc,cV,pM,gL,a];omega
def Mx:∀(a:List aN)(i)(x:aN)(j),a[i]? =x->j<7->(j7 a)[i*7+j]? =(a6 x j)
 |[],i,x,j,h,_=>by simp at h
 |y::t,0,x,j,h,b=>by
  show((List.range 7).map (a6 y)++j7 t)[0*7+j]? =_
  grind
 |y::t,i+1,x,j,h,b=>by
  show((List.range 7).map (a6 y)++j7 t)[(i+1)*7+j]? =_;have:=Mx t i x j h b
  grind
def Me{W}{base n:Nat}{v}{b:List aN}(h:W.ownsRow base 143 7 v n (j7 b)):∃A c,v= .slice A b c/\n=b/\eG W A b/\∀a,A=some a->base<=a.block/\a.block<W.1.size:=by
 have l:n=b:=by have:=h.1;rw[JN]at this;omega
 have⟨A,c,e⟩:=bo h (dr rfl);refine⟨A,c,by rw[e,l],l,fun q=>?_,fun a f=>h.lt a.block (by rw[e,f];rfl)⟩;obtain⟨_,f⟩|⟨g,r,s,f,_⟩:=h.2
 .omega
 have e1:A=some g:=by grind
 refine⟨g,0,e1,(h.lt g (by rw[f];rfl)).2,fun i x m j o=>?_⟩;have p:=h.cells (g:=g) (by rw[f];rfl) (i*7+j) _ (Mx b i x j m o);rw[eV]at p
 grind
def MO{W}{base n}{v}{ps}(h:W.ownsRow base 275 2 v n (jA ps)):∃A c,v= .slice A ps.length c/\zZ W A ps:=by
 have j:∀l:List (Nat×Nat),(jA l)=l.length*2:=fun l=>by
  unfold jA
  induction l with
  |nil=>rfl
  |cons x t f=>simp only[uz,dc,gL,f];unfold Ly;simp;omega
 have m:∀(l:List (Nat×Nat))(i:Nat)(p:Nat×Nat),l[i]? =p->(jA l)[i*2]? =some (.int .u8 p.1)/\(jA l)[i*2+1]? =some (.int .u8 p.2):=by
  intro l
  induction l with
  |nil=>intro i p a;simp at a
  |cons y t f=>
   intro i p a;cases i with
   |zero=>obtain rfl:=aR a;exact⟨rfl,rfl⟩
   |succ i=>rw[show(i+1)*2=i*2+1+1 by omega];exact f i p a
 have o:n=ps.length:=by have:=h.1;rw[j]at this;omega
 have⟨A,c,e⟩:=bo h (dr rfl);refine⟨A,c,by rw[e,o],fun a=>?_⟩;obtain⟨_,b⟩|⟨g,w,z,b,_⟩:=h.2
 .omega
 have e1:A=some g:=by grind
 refine⟨g,0,e1,(h.lt g (by rw[b];rfl)).2,fun i p a=>?_⟩;have⟨q,r⟩:=m ps i p a;have s:=h.cells (g:=g) (by rw[b];rfl) _ _ q;have u:=h.cells (g:=g) (by rw[b];rfl) _ _ r;rw[eV]at s u
 grind
structure xo(N:Nat)(t:Path):Prop where
 len:t.F.length<=24
 loc:∀e∈t.F,e.kind=1\/e.kind=2->e.loc.toNat<N
 data:∀x∈t.data,x.1<t.F.length/\x.2<t.F.length
 A:∀x∈t.A,x.1<t.F.length/\x.2<t.F.length
 dP:∀x∈t.dP,x.1<t.F.length/\x.2<t.F.length
 acY:t.data.length<=1000
 afa:t.A.length<=1000
 aeB:t.dP.length<=1000
def UL{N}{init}{ps}(h:∀t∈ps,xo N t)(k):gR init ps k<=init.length+24*k:=by
 induction k with
 |zero=>exact av _
 |succ k b=>
  have:(ps.getD k jU).F.length<=24:=by
   rw[bj];cases a:ps[k]? with
   |none=>exact aQ _
   |some t=>exact(h t (cB a)).len
  show gR init ps k+_<=_;omega
def F7(W:World)(lo:Nat)(init:List UInt8)(N:Nat)(ps:List Path)(cs:List Value):Prop:=
 ∃A b R cr S c U cu,cs=(List.range 336).map (mG (fU init ps) (.slice A (bd init ps).length b) (.slice R (bu (bd init ps)).length cr) (.slice S (bF (bd init ps)).length c) (.slice U N cu))/\
  (∀a,A=some a->lo<=a.block/\a.block<W.1.size)/\eG W A (bd init ps)/\(∀a,R=some a->lo<=a.block/\a.block<W.1.size)/\fK W R (ints (bu (bd init ps)))/\ky W lo S (bF (bd init ps))/\ky W lo U (gg (bd init ps) N)
structure jx(w:World)(mb:Nat)(X:XE)(ve:Value)(F:List aN)(W:World):Prop where
 tmp:aj W w.1.size 93 336 (mG (jg 0) nS nS nS nS)
 dB:aj W mb 93 336 (mG X ve nS nS nS)
 row:W.ownsRow w.1.size 143 7 ve F.length (j7 F)
 y:Below w w W
def jx.Z{w W W'}{mb}{X}{ve}{F}(h:jx w mb X ve F W)(f:Below W.1.size W W'):jx w mb X ve F W':=
 ⟨h.tmp.Z f h.tmp.lt,h.dB.Z f h.dB.lt,bP h.row f,h.y.t (f.m h.y.size)⟩
def jx.put{w W w9}{mb n}{X}{ve v'}{F}{x}(h:jx w mb X ve F W)(A:w.1.size<mb)(r:n=F.length)(g:w9.ownsRow w.1.size 143 7 v' (n+1) (j7 F++(List.range 7).map (a6 x)))
 (f:W.grownBy w9 ve.ownBlock):jx w mb X v' (F++[x]) (w9.setCell mb v'):=by
 subst r;have u:some mb≠ve.ownBlock:=fun e=>ed h.row h.dB (dr rfl) e.s;have y:some w.1.size≠ve.ownBlock:=fun e=>ed h.row h.tmp (dr rfl) e.s;have o:=h.dB.K f u;refine⟨(h.tmp.K f y).other _ _ (by grind),(o.set 0 v').congr fun i _=>aax (by omega) (M0 X ve v') i,?_,?_⟩
 .rw[dc,qz,aeX];exact dJ g fun b C E=>cP _ _ _ _ (fun e=>ed g o (dr rfl) (by grind))
 exact(h.y.b f h.y.size (fun b e=>(h.row.lt b e).1)).setCell (p:=mb) (by grind) _
def jx.qi{w W W'}{mb}{X X'}{ve}{F}(h:jx w mb X ve F W)(o:w.1.size<mb)(g:aj W' mb 93 336 (mG X' ve nS nS nS))(f:W.grownBy W' (some mb)):jx w mb X' ve F W':=
 ⟨h.tmp.K f (by grind),g,dJ h.row fun b r i=>f.block b i (fun e=>ed h.row h.dB (dr rfl) (by grind)),h.y.b f h.y.size (fun b e=>by grind)⟩
def zZ.Z{n}{W W'}{A}{ps}(h:zZ W A ps)(f:Below n W W')(u:W.1.size<=n):zZ W' A ps:=by
 intro o;obtain⟨b,off,rfl,r,g⟩:=h o;exact⟨b,off,rfl,aW r f.size,fun i p hi=>⟨(f.C (p:=⟨b,off+i*2,none⟩) (by grind)).t (g i p hi).1,(f.C (p:=⟨b,off+i*2+1,none⟩) (by grind)).t (g i p hi).2⟩⟩
def Km{w W}{mb}{X}{ve}{F}(r o)(g:r<6)(l:o=1+49*r)(h:jx w mb X ve F W)(m:w.1.size<mb)(A:Option Addr)(c:Nat)(ps:List (Nat×Nat))(b:Nat)
 (n:zZ W A ps)(q:∀a,A=some a->a.block≠mb)(j:∀p∈ps,b+p.1<48/\b+p.2<48/\p.1<256/\p.2<256)(s:ps.length<=100000):
 Calls prog 101 #[.pointer (some ⟨mb,o,none⟩),.slice A ps.length c,.int .i64 b] W fun e f=>e= .returned (.tuple #[])/\jx w mb (setRow X r (eU (X.row r) b ps)) ve F f/\W.grownBy f (some mb):=by
 subst l;refine(Z0 mb (1+49*r) 336 93 _ (X.row r) A c ps b W h.dB (by omega) (fun i t=>by rw[yy _ _ _ _ _ (by omega),xe X ve r i g t]) n q j s).m ?_;rintro e f ⟨rfl,s,j⟩;exact⟨rfl,h.qi m (s.congr fun i _=>U4 g _ i) j,j⟩
def jx.UE{w W W'}{mb k L0}{N}{init}{ps}{q}{ve}{F}{G:Nat->Value}
 (h:jx w mb (setRow (setRow (setRow (dw N init ps k) 3 (eU ((dw N init ps k).row 3) L0 q.data)) 4 (eU ((setRow (dw N init ps k) 3 (eU ((dw N init ps k).row 3) L0 q.data)).row 4) L0 q.A)) 5
   (eU ((setRow (setRow (dw N init ps k) 3 (eU ((dw N init ps k).row 3) L0 q.data)) 4 (eU ((setRow (dw N init ps k) 3 (eU ((dw N init ps k).row 3) L0 q.data)).row 4) L0 q.A)).row 5) L0 q.dP)) ve F W)
 (y:w.1.size<mb)(A:k<4)(C:L0=(jr init ps k).length)(r:ps.getD k jU=q)(E:∀i,G (4+i)= .int .u8 (Y (q.L i)))
 (u:aj W' mb 93 336 (bm (mG (setRow (setRow (setRow (dw N init ps k) 3 (eU ((dw N init ps k).row 3) L0 q.data)) 4 (eU ((setRow (dw N init ps k) 3 (eU ((dw N init ps k).row 3) L0 q.data)).row 4) L0 q.A)) 5
   (eU ((setRow (setRow (dw N init ps k) 3 (eU ((dw N init ps k).row 3) L0 q.data)) 4 (eU ((setRow (dw N init ps k) 3 (eU ((dw N init ps k).row 3) L0 q.data)).row 4) L0 q.A)).row 5) L0 q.dP)) ve nS nS nS) (295+k*8) 8 (fun i=>G (4+i))))
 (H:W.grownBy W' (some mb)):jx w mb (dw N init ps (k+1)) ve F W':=by
 have eX:setRow (setRow (setRow (dw N init ps k) 3 (eU ((dw N init ps k).row 3) L0 q.data)) 4 (eU ((setRow (dw N init ps k) 3 (eU ((dw N init ps k).row 3) L0 q.data)).row 4) L0 q.A)) 5
  (eU ((setRow (setRow (dw N init ps k) 3 (eU ((dw N init ps k).row 3) L0 q.data)) 4 (eU ((setRow (dw N init ps k) 3 (eU ((dw N init ps k).row 3) L0 q.data)).row 4) L0 q.A)).row 5) L0 q.dP)=
  setRow (setRow (setRow (dw N init ps k) 3 (ma Path.data init ps (k+1))) 4 (ma Path.A init ps (k+1))) 5 (ma Path.dP init ps (k+1)):=by
  have I:∀(o:XE) f,(setRow o 3 f).row 4=o.row 4:=fun o f=>rfl;have J:∀(o:XE) f g,(setRow (setRow o 3 f) 4 g).row 5=o.row 5:=fun o f g=>rfl;rw[J,I,aa1,Zy,abL,C,wU,<-r];rfl
 rw[eX]at h u;refine h.qi y (u.congr fun i _=>?_) H;have L:(fun i=>G (4+i))=fun j=> .int .u8 (Y ((ps.getD k jU).L j)):=funext fun i=>by rw[E,r]
 rw[L,show 295+k*8=295+8*k by omega];refine RU (by omega) (fun i=>?_) i;rw[aac _ ve k A,aaS]
def ae3{P}{ops}{I}{Q}{R}{a}{rest}{o}(c:Bo.gY o=false)(e:Region.wanted o (yielded ops a.tmps)=true)(ty)(x)(f:o.op= .load ty x)
 (b off m n)(t)(g)(j:a.eval x= .pointer (some ⟨b,off,none⟩))(l:∀W,I W->aj W b t n g)(p:off+m<=n)(d)(q:P.underlying ty=some d)(r:d.isRow=true)(s:(P.info? ty).map (·.size)=some m)
 (h:Bo.walk P ops I none Q rest R (a.put o.dst (J m fun i=>g (off+i)))):Bo.walk P ops I none Q (o::rest) R a:=
 Bo.Fc c e (fun W s=>by
   unfold execOp;simp only[f,j,Instr.loadAt,Instr.sureAddr,eD,eZ,eY,(qu (P:=P) W b off ty _ d ((l W s).range off m p) q r (by grind))];rfl) h
def aey{init}{N}{ps}(m:init.length=N)(n:N<=6)(c:∀t∈ps,xo N t)(k):∀x∈jr init ps k,x.ev.kind=1\/x.ev.kind=2->x.ev.loc.toNat<N:=by
 intro x f g;obtain h|h:=mg.1 f
 .obtain⟨l,j,rfl⟩:=bX.1 h;rw[fS]at j;show(UInt8.ofNat l).toNat<N;rw[pw];omega
 have⟨i,_,h⟩:=mR.1 h;obtain⟨e,a,rfl⟩:=bX.1 h;rw[bj]at a;cases b:ps[i]? with
 |none=>rw[b]at a;cases a
 |some t=>rw[b]at a;exact(c t (cB b)).loc e a g
def aag{w wc w8 w9}{mb}{init}{N}{ps}{A}{ec}{R S U}{cr cs cu}
 (h:jx w mb (fU init ps) (.slice A (bd init ps).length ec) (bd init ps) wc)(t:w.1.size<mb)(l:∀a,A=some a->w.1.size<=a.block/\a.block<wc.1.size/\a.block≠mb/\a.block≠w.1.size)(m:eG wc A (bd init ps))
 (n:∀a,R=some a->wc.1.size<=a.block/\a.block<w8.1.size)(o:fK w8 R (ints (bu (bd init ps))))(p:ky w8 wc.1.size S (bF (bd init ps)))(q:ky w8 wc.1.size U (gg (bd init ps) N))(i:wc.grownBy w8 (some mb))
 (f:w8.grownBy w9 (some w.1.size)):
 F7 w9 w.1.size init N ps ((List.range 336).map (mG (fU init ps) (.slice A (bd init ps).length ec) (.slice R (bu (bd init ps)).length cr) (.slice S (bF (bd init ps)).length cs) (.slice U N cu)))/\Below w.1.size w w9:=by
 have r:=i.size;have g:=f.size;have:=h.tmp.lt;have j:∀b,wc.1.size<=b->b<w8.1.size->w9.1[b]? =w8.1[b]?:=fun b u s=>f.block b s (by grind);refine⟨⟨A,ec,R,cr,S,cs,U,cu,rfl,fun a e=>⟨(l a e).1,by grind⟩,?_,fun a e=>⟨by grind,by grind⟩,o.same g fun a e c=>j _ (n a e).1 c,(p.same g j).less (by omega),(q.same g j).less (by omega)⟩,?_⟩
 .refine(m.same r fun a e c=>i.block _ c ?_).same g fun a e c=>f.block _ c ?_
  .grind
  grind
 exact(h.y.b i h.y.size (fun b e=>by grind)).b f (by omega) (fun b e=>by grind)
def jx.po{w w5 w6}{f g o:Nat}{init}{ps}{F}{VA}(h:jx w f (dw g init ps ps.length) (.slice VA F.length o) F w5)(r:w.1.size<f)(u:F=bd init ps)(y:g=gR init ps ps.length)
 (A:aj w6 f 93 336 (bm (mG (dw g init ps ps.length) (.slice VA F.length o) nS nS nS) 1 49 (dz g (oP F))))(C:w5.grownBy w6 (some f)):jx w f (fU init ps) (.slice VA F.length o) F w6:=by
 refine h.qi r (A.congr fun i _=>?_) C;refine RU (by omega) (fun i=>?_) i;have e:=adX (dw g init ps ps.length) (.slice VA F.length o) 0 (dr rfl) (oP F) i;rw[adr,Nat.mul_zero,vY]at e;rw[e];unfold fU;rw[<-u,<-y]
def oy(W:World)(cs:List Value)(e):∀j u,cs[j]? =some u->(W.alloc (.cells cs.toArray e)).cell? ((⟨W.1.size,0,none⟩:Addr).add j)=some u:=by
 intro j u a;rw[eV,cK,lN _ _ j _ _ _ (jZ W _)]
 grind
def TC(w:World):aj (w.alloc (.cells (J 336 (mG (jg 0) nS nS nS nS)) 93)) w.1.size 93 336 (mG (jg 0) nS nS nS nS):=aj.new _ _ _ _
def Hy(X)(i):(mG X nS nS nS nS i).oneCell'=true:=Mg X rfl rfl rfl rfl i
def ae4(aZ:Nat)(g:Nat->Value)(p:a8)(bI:Option Addr)(pc:Nat)(ps:List Path)(w:World)(f:aj w aZ 29 10 g)(l:eE w g p)(r:Aq w bI ps)(c1:ps.length<=4)(y:p.init.length=p.N)(bl:p.N<=6)(I:∀t∈ps,xo p.N t):
 Calls prog 56 #[.pointer aZ,.slice bI ps.length pc] w fun e bJ=>(gR p.init ps ps.length<=48->∃cs,e= .returned (.tuple #[.agg cs.toArray,.bool true])/\F7 bJ w.1.size p.init p.N ps cs)/\
  (48<gR p.init ps ps.length->∃G:Nat->Value,e= .returned (.tuple #[.agg (J 336 G),.bool false])/\∀i,(G i).oneCell'=true)/\Below w w bJ:=by
 have s:=Kn;have⟨c2,c3,N⟩:=l.N;have⟨c4,c5,m,P⟩:=l.init;have L:=f.C 1 (dr rfl);have Q:=f.C 2 (dr rfl);rw[N]at L;rw[m]at Q;have bn:=f.lt;have C:=jR r y I P (TC w) (show Below w w (w.alloc (.cells (J 336 (mG (jg 0) nS nS nS nS)) 93))from ba w _) L Q;have af:(w.alloc (.cells (J 336 (mG (jg 0) nS nS nS nS)) 93)).1.size=w.1.size+1:=by simp
 clear f l r y I P N m;go_enter func56,ntmps56
 go_wp2_with fail
 generalize f:w.alloc (.cells (J 336 (mG (jg 0) nS nS nS nS)) 93)=W0 at C af⊢;clear f s L Q
 go_loopw [6,25] (fun n i wr=>∃k:Nat,k<=ps.length/\i= .int .i64 k/\n= .int .i64 (gR p.init ps k)/\aj wr w.1.size 93 336 (mG (jg 0) nS nS nS nS)/\Below w w wr) (fun _ i _=>ps.length-(intOf i).toNat)
 case atStart=>exact⟨0,aQ _,rfl,by rw[<-C.b];rfl,C.e,C.f⟩
 obtain⟨k,bL,rfl,rfl,r,ab⟩:=hrel;have bN:=UL (init:=p.init) C.c k;have:p.init.length<=6:=by rw[C.b];exact bl
 by_cases a0:k<ps.length
 .have⟨ai,aH,bp,b5,a1⟩:=C.a (by omega);subst bp;obtain⟨q,ak⟩:∃q,ps[k]? =some q:=⟨_,aI a0⟩
  have⟨al,b6,b7,b8,aJ,ar,am,aR,aS⟩:=a1 k q ak;have⟨ad,L,e1⟩:=bo ar (dr rfl);have⟨au,Q,e2⟩:=bo am (dr rfl);have⟨aw,ax,aT⟩:=bo aR (dr rfl);have⟨ay,az,a4⟩:=bo aS (dr rfl);subst e1 e2 aT a4;have b9:(k:Int)<ps.length:=by omega
  have aK:ps.getD k jU=q:=by rw[bj,ak];rfl
  have⟨G,I⟩:=eX (kF (.slice ad q.F.length L) (.slice au q.data.length Q) (.slice aw q.A.length ax) (.slice ay q.dP.length az) q.L);rw[<-I]at aJ;have a5:∀i,(G i).oneCell'=true:=fun i=>by rw[I];exact L2 _ _ _ _ _ rfl rfl rfl rfl i
  have aV:G 0= .slice ad q.F.length L:=by rw[I];rfl
  have aB:wr.rangeAt ai (aH+k*12) ((List.range 12).map G):=T8 fun j aW=>(ab.C (p:=⟨ai,aH+k*12+j,none⟩) (by show ai<w.1.size;omega)).t (aJ j aW);have aC:aj (wr.alloc (.cells #[nS,nS,nS,nS,.int .u8 0,.int .u8 0,.int .u8 0,.int .u8 0,.int .u8 0,.int .u8 0,.int .u8 0,.int .u8 0] 135)) wr.1.size 135 12 (kF nS nS nS nS fun _=>0):=aj.dq _ _ _ _ _ NC;have bq:=(C.c q (cB ak)).len;have⟨E,aD⟩:=eX q.F.length;rw[<-aD]at bq aV;have⟨y,l⟩:=eX (gR p.init ps k);rw[<-l]at bN⊢;have f:=jR r ab aB aC aV aK aD l;clear r ab aB aC aV a1 aJ ar am aR aS ak aK I aD l
  go_wp2_with (first|(refine iI rfl 135 (.tmp 27) rfl ai (aH+k*12) rfl ((List.range 12).map G) _ f.c Gg rfl xQ (h:=?_))|(refine eP rfl 135 (.tmp 8) (.tmp 28) rfl wr.1.size 0 12 12 135 (kF nS nS nS nS fun _=>0) G rfl rfl f.d (dr rfl) xQ (fun i _=>a5 i) (h:=?_);intro aL aa m;have ae:aj aL wr.1.size 135 12 G:=aa.congr (fun i aE=>by unfold bm;rw[aq ⟨by omega,by omega⟩,ez]);have ah:aL.cell? (wr.1.size:Nat)=some (.slice ad E L):=(ae.C 0 (dr rfl)).t (cs f.e);have an:=fJ m;have ao:=H an;clear aa m ae an))
  refine⟨⟨k+1,by omega,by go_num,?_,f.a.Z ao.y f.a.lt,f.b.t (ao.y.m f.b.size)⟩,by simp[intOf];omega⟩;show Value.int .i64 _=Value.int .i64 ((gR p.init ps k+(ps.getD k jU).F.length:Nat):Int);rw[f.f,<-f.g,<-f.H];congr 1
 have a2:k=ps.length:=by omega
 subst a2;have⟨y,l⟩:=eX (gR p.init ps ps.length);rw[<-l]at bN⊢;have aM:=aA r ab;have aX:=H l;clear r ab l;by_cases 48<y
 .have d0:(48:Int)<y:=by omega
  go_wp2_with (first|(refine BG rfl 93 #[] rfl _ (acu _ _ _ rfl) (h:=?_))|(refine eP rfl 93 (.tmp 4) (.tmp 37) rfl w.1.size 0 336 336 93 (mG (jg 0) nS nS nS nS) (mG (jg 0) nS nS nS nS) rfl rfl aM.a (dr rfl) ur (fun i _=>Hy _ i) (h:=?_);intro aL aa m;have ao:=aA aa m;clear aa m))
  refine bK (oT rfl _ ao.a _ rfl Ea rfl ur) rfl ?_;rw[<-aX.y];exact⟨fun h=>by omega,fun _=>⟨_,rfl,fun i=>by unfold bm;split<;>exact Hy _ _⟩,aM.B.b ao.B aM.B.size (fun b e=>by cases e;omega)⟩
 have:¬(48:Int)<y:=by omega
 have br:y<=48:=by omega
 have s:=Kn;have ca:=aM.B.size;have cb:=aM.a.lt
 go_wp2_with fail
 refine(Xo y wr br).st fun aN ag=>?_;have:=ag.size;have aO:=aA (TC aN) ((aM.B.t (ag.m ca)));have cc:=H (aM.a.Z ag cb);have⟨r,P⟩:=eX aN.1.size;have aF:w.1.size<r:=by omega
 rw[<-P]at aO;have aY:=H P;clear ag;have X:∀N,aj N r 93 336 (bm (mG (jg 0) nS nS nS nS) 0 336 (mG (jg y) nS nS nS nS))->(aN.alloc (.cells (J 336 (mG (jg 0) nS nS nS nS)) 93)).grownBy N (some r)->jx w r (jg y) nS [] N:=by
  intro N aG l;have ab:=aO.B;refine⟨(cc.y.alloc _).K l (sn (by omega)),aG.congr (fun i aE=>by unfold bm;rw[aq ⟨by omega,by omega⟩,ez]),gI _ _ _ _,?_⟩;exact(ab.alloc ab.size _).b l (by have:=ab.size;simp;omega) (fun b e=>by cases e;omega)
 clear P
 go_wp2_with (first|(refine BG rfl 93 #[(0,.tmp 39)] rfl _ (Za y _ _ _ rfl rfl) (h:=?_))|(rw[<-aY.y];refine eP rfl 93 (.tmp 9) (.tmp 40) rfl r 0 336 336 93 (mG (jg 0) nS nS nS nS) (mG (jg y) nS nS nS nS) rfl rfl aO.a (dr rfl) ur (fun i _=>Hy _ i) (h:=?_);intro N aG l;have P:=H (X N aG l);have Q:=(P.y.y.C (p:=⟨aZ,2,none⟩) bn).t C.H;clear aG l X))
 have⟨bO,aW,bP,bQ,bS⟩:=eQ Tv;clear Q s af
 go_loopw [47] (fun i wr=>∃(k:Nat)(al:Value),k<=p.init.length/\i= .int .i64 k/\jx w r (jg y) al (qS p.init k) wr) (fun i _=>p.init.length-(intOf i).toNat)
 case atStart=>exact⟨0,_,aQ _,rfl,P.y⟩
 obtain⟨k,al,bL,rfl,l⟩:=hrel;by_cases a0:k<p.init.length
 .obtain⟨cd,ce,rfl,cf,af⟩:=C.d (by omega);obtain⟨v,aP⟩:∃v,p.init[k]? =some v:=⟨_,aI a0⟩
  have:=(l.y.C (p:=⟨cd,ce+k,none⟩) cf).t (af k v aP);have b9:(k:Int)<p.init.length:=by omega
  have am:p.init.getD k 0=v:=by rw[bj,aP];rfl
  have⟨c6,c7,ah⟩:=bo l.row (dr rfl);subst ah;have s:=Ds p.init k;have a3:=l.dB.C 0 (dr rfl);rw[yy _ _ _ _ _ (by omega),nV]at a3;have ap:=l.row;rw[s]at a3 ap l;have c8:=l.y.size;have:IntKind.u8.wrap (k:Int)=(k:Int):=by simp[IntKind.wrap,IntKind.bits,IntKind.signed];omega
  have ah:([Value.int .i64 (-1),.int .u8 2,.int .u8 (k:Int),.int .u8 (Y v),.int .u8 0,.int .u8 0,.int .u8 0]:List Value)=(List.range 7).map (a6 (kP k v)):=by
   show _=[Value.int .i64 (-1),.int .u8 (Y 2),.int .u8 (Y (UInt8.ofNat k)),.int .u8 (Y v),.int .u8 (Y 0),.int .u8 (Y 0),.int .u8 (Y 0)]
   have e1:Y (UInt8.ofNat k)=(k:Int):=by unfold Y;rw[pw];omega
   rw[e1];rfl
  have f:=bM l ap am ah s;clear l ap af aP am ah s
  go_wp2_with (at_builtin;refine DQ _ rfl _ _ 48 rfl w.1.size 143 bO _ 7 16 underlying48 aW bP bQ bS rfl (dr rfl) _ k _ rfl (f.b.alloc _) (wr.1.size:Nat) 1 1 [Value.int .i64 (-1),.int .u8 2,.int .u8 (k:Int),.int .u8 (Y v),.int .u8 0,.int .u8 0,.int .u8 0] rfl rfl (oy _ _ _) (by simp[Value.oneCell']) (by unfold maxLen;omega) (by omega) (by simp;omega) ?_;intro bb w9 af s bc;have⟨ah,a7,a9⟩:=bo af (dr rfl);subst a9;have f9:w9.frozen? r=false:=((f.a.dB.alloc _).K s (fun e=>ed f.b f.a.dB (dr rfl) e.s)).free 0;have be:=((f.a.dB.alloc _).K s (fun e=>ed f.b f.a.dB (dr rfl) e.s)).C 0 (dr rfl))
  refine⟨⟨k+1,.slice ah (k+1) a7,by omega,by go_num,?_⟩,by simp[intOf];omega⟩;rw[acj,f.c];refine(f.a.Z (ba wr _)).put aF f.E.s ?_ s;rw[<-f.d];exact af
 have a2:k=p.init.length:=by omega
 subst a2;have bs:=H l;clear l;rw[<-OE p.init ps]at bs;have s:jg (y:Int)=dw y p.init ps 0:=(agN _ _ _).s;rw[s]at bs;clear s P aY;go_wp2
 go_loopw [68] (fun i wr=>∃(k:Nat)(al:Value),k<=ps.length/\i= .int .i64 k/\jx w r (dw y p.init ps k) al (jr p.init ps k) wr) (fun i _=>ps.length-(intOf i).toNat)
 case atStart=>exact⟨0,_,aQ _,rfl,bs.y⟩
 obtain⟨k,al,bL,rfl,l⟩:=hrel;have⟨P,cg⟩:=eX wr;subst cg;have ab:=l.y;by_cases a0:k<ps.length
 .have⟨ai,aH,bp,b5,a1⟩:=C.a (by omega);subst bp;obtain⟨q,ak⟩:∃q,ps[k]? =some q:=⟨_,aI a0⟩
  have⟨c9,b6,b7,b8,aJ,ar,am,aR,aS⟩:=a1 k q ak;have⟨ad,L,e1⟩:=bo ar (dr rfl);have⟨au,Q,e2,bb⟩:=MO am;have⟨aw,ax,aT,bc⟩:=MO aR;have⟨ay,az,a4,be⟩:=MO aS;have an:=fun a e=>(am.lt a (by rw[e2];exact e)).2;have ag:=fun a e=>(aR.lt a (by rw[aT];exact e)).2;have af:=fun a e=>(aS.lt a (by rw[a4];exact e)).2;subst e1 e2 aT a4;have:(k:Int)<ps.length:=by omega
  have aK:ps.getD k jU=q:=by rw[bj,ak];rfl
  have a9:=C.c q (cB ak);have⟨G,I⟩:=eX (kF (.slice ad q.F.length L) (.slice au q.data.length Q) (.slice aw q.A.length ax) (.slice ay q.dP.length az) q.L);rw[<-I]at aJ;have a5:∀i,(G i).oneCell'=true:=fun i=>by rw[I];exact L2 _ _ _ _ _ rfl rfl rfl rfl i
  have⟨E,aD⟩:=eX q.F.length;have aV:G 0= .slice ad E L:=by rw[I,aD];rfl
  have bq:=a9.len;rw[<-aD]at bq;have aB:P.rangeAt ai (aH+k*12) ((List.range 12).map G):=T8 fun j aW=>(ab.C (p:=⟨ai,aH+k*12+j,none⟩) (by show ai<w.1.size;omega)).t (aJ j aW);have aC:aj (P.alloc (.cells #[nS,nS,nS,nS,.int .u8 0,.int .u8 0,.int .u8 0,.int .u8 0,.int .u8 0,.int .u8 0,.int .u8 0,.int .u8 0] 135)) P.1.size 135 12 (kF nS nS nS nS fun _=>0):=aj.dq _ _ _ _ _ NC;have⟨ah,ch,aP⟩:=bo l.row (dr rfl);subst aP;have⟨aY,a7⟩:=eX (jr p.init ps k).length;have bT:=l.dB.C 0 (dr rfl);rw[yy _ _ _ _ _ (by omega),nV,<-a7]at bT;have ci:=l.dB.lt;have:aY<=48:=by
   have:=JM p.init ps (show k<=ps.length by omega);rw[a7,wU];have:=aX.y;omega
  have f:=dH l aB aC aV aK aD a7;have s:=gQ bb bc be an ag af a9 ar I;clear l aB aC aV a1 aJ ar am aR aS ak aK I aD a7 bb bc be an ag af a9
  go_wp2_with (first|(refine iI rfl 135 (.tmp 71) rfl ai (aH+k*12) rfl ((List.range 12).map G) _ f.b Gg rfl xQ (h:=?_))|(refine eP rfl 135 (.tmp 14) (.tmp 72) rfl P.1.size 0 12 12 135 (kF nS nS nS nS fun _=>0) G rfl rfl f.c (dr rfl) xQ (fun i _=>a5 i) (h:=?_);intro aL aa m;have ae:aj aL P.1.size 135 12 G:=aa.congr (fun i aE=>by unfold bm;rw[aq ⟨by omega,by omega⟩,ez]);have:aL.cell? P=some (.slice ad E L):=(ae.C 0 (dr rfl)).t (cs f.d);have an:=fJ m;have:=(an.C (p:=r) ci).t bT;have ao:=aA ae an;clear aa m ae an))
  have ak:eG w ad (q.F.map fun e=>⟨0,e⟩):=by
   have h:=s.h;have e1:tu q.F=j7 (q.F.map fun e=>⟨0,e⟩):=by
    unfold tu j7;rw[List.flatMap_map];rfl
   rw[e1]at h;have⟨A,c,e2,_,an,_⟩:=Me h;injection e2 with aT;rw[aT];exact an
  have cj:=aA ak (show∀a,ad=some a->a.block<w.1.size from fun a e=>(s.h.lt a.block (by rw[e];rfl)).2);clear ak;have:=ao.B.size;have:=ab.size
  go_loopw [81] (fun i wr=>∃(j:Nat)(al:Value),j<=E/\i= .int .i64 j/\jx w r (dw y p.init ps k) al (jr p.init ps k++kO k (q.F.take j)) wr/\aj wr P.1.size 135 12 G/\aL.1.size<=wr.1.size) (fun i _=>E-(intOf i).toNat)
  case atStart=>
   refine⟨0,.slice ah (jr p.init ps k).length ch,aQ _,rfl,?_,ao.a,av _⟩;have h:=f.a.Z ao.B;rw[IC];unfold kO;rw[pR,kL];exact h
  obtain⟨j,al,da,rfl,l,I,db⟩:=hrel;by_cases cl:j<E
  .have⟨bt,bv,cm,cn,am⟩:=cj.a (by rw[cV,<-f.f];omega);subst cm;obtain⟨e,ak⟩:∃e,q.F[j]? =some e:=⟨_,aI (by rw[<-f.f];exact cl)⟩
   have aB:wr.rangeAt bt (bv+j*7) ((List.range 7).map (a6 ⟨0,e⟩)):=Cj fun i aE=>(l.y.C (p:=⟨bt,bv+j*7+i,none⟩) cn).t (am j ⟨0,e⟩ (by rw[dG,ak];rfl) i aE);have aC:aj (wr.alloc (.cells #[.int .i64 0,.int .u8 0,.int .u8 0,.int .u8 0,.int .u8 0,.int .u8 0,.int .u8 0] 143)) wr.1.size 143 7 (eS jN):=aj.dq _ _ _ _ _ rfl;have:(j:Int)<E:=by omega
   have aD:kO k (q.F.take (j+1))=kO k (q.F.take j)++[⟨(k:Int),e⟩]:=by
    rw[jd,ak];unfold kO;simp
   have ao:=bM l I aB aC aD;have:=l.y.size;have cp:(kO k (q.F.take j)).length=j:=by unfold kO;rw[cV,qx,<-f.f];omega
   clear l I aB aC aD ak am
   go_upto_region 24 with(first|(refine iI rfl 143 (.tmp 83) rfl bt (bv+j*7) rfl ((List.range 7).map (a6 ⟨0,e⟩)) _ ao.c iy rfl eH (h:=?_))|(refine eP rfl 143 (.tmp 17) (.tmp 84) rfl wr.1.size 0 7 7 143 (eS jN) (a6 ⟨0,e⟩) rfl rfl ao.d (dr rfl) eH (fun i _=>sQ _ _) (h:=?_);intro aN aa m;have ae:aj aN wr.1.size 143 7 (a6 ⟨0,e⟩):=aa.congr (fun i aE=>by unfold bm;rw[aq ⟨by omega,by omega⟩,ez]);have ak:aN.cell? (wr.1.size:Nat)=some (.int .i64 0):=ae.C 0 (dr rfl);have f0:=ae.free 0;have ag:=fJ m;have aO:=aA ae ag;clear aa m ae ag))
   have⟨N,m⟩:=eX (aN.setCell (wr.1.size:Nat) (.int .i64 k));have aG:aj N wr.1.size 143 7 (a6 ⟨(k:Int),e⟩):=by
    rw[m];refine(aO.a.set 0 _).congr fun i _=>?_;unfold aU;by_cases e:i=0
    .subst e;rfl
    rw[O e];cases i with
    |zero=>exact absurd rfl e
    |succ i=>rfl
   have af:Below wr.1.size wr N:=by rw[m];exact aO.B.setCell (p:=(wr.1.size:Nat)) (av _) _
   rw[<-m];clear ak f0 m aO;have X:=ao.a.Z af;have⟨am,aB⟩:=eX (jr p.init ps k++kO k (q.F.take j));rw[<-aB]at X;have cq:am.length=aY+j:=by rw[aB,dc,<-f.G,cp]
   have⟨M,aC⟩:=eX am.length;have ap:=X.row;have⟨ae,ag,aP⟩:=bo ap (dr rfl);subst aP;rw[<-aC]at X ap;have aD:qH N w.1.size 143 7 (.slice ae M ag) M (j7 am) {N with drawn:=N.drawn+1}:=⟨⟨rfl,rfl,rfl,av _,fun _ _ _=>rfl⟩,ap⟩
   have aa:some r≠(Value.slice ae M ag).ownBlock:=fun e=>ed ap X.dB (dr rfl) e.s;have bU:some wr.1.size≠(Value.slice ae M ag).ownBlock:=fun e=>by
    cases ae with
    |none=>cases e
    |some a=>have:=(ao.a.row.lt wr.1.size e.s).2;omega
   have ak:∀W',qH N w.1.size 143 7 (.slice ae M ag) M (j7 am) W'->W'.cell? r=some (.slice ae M ag):=fun W' m=>by
    rw[(X.dB.K m.1 aa).C 0 (dr rfl),yy _ _ _ _ _ (by omega),nV]
   have⟨T,bw⟩:=eX (a6 ⟨(k:Int),e⟩);have ct:∀i,(T i).oneCell'=true:=fun i=>by rw[bw];exact sQ _ _
   rw[<-bw]at aG;have cv:∀u∈(#[T 0,T 1,T 2,T 3,T 4,T 5,T 6]:Array Value).toList,u.oneCell'=true:=by
    intro u bV;simp only[fI,sV,Cr]at bV;obtain h|h|h|h|h|h|h:=bV<;>(subst h;exact ct _)
   have cw:J 7 (fun i=>T (0+i))=#[T 0,T 1,T 2,T 3,T 4,T 5,T 6]:=rfl;have:M<=200:=by rw[aC,cq];omega
   have:=X.y.size;have bx:=dH X aG af aB aC aa bU;clear ap X af aB aa aC;refine Bo.j2 (qH N w.1.size 143 7 (.slice ae M ag) M (j7 am)) (E7 _ _ _ _ _ _ _) aD 10 (by kernel_rfl) (by kernel_rfl) ?_;simp only[st1]
   iterate 4(refine Bo.i rfl (fun W' m=>by simp[execOp,go_sem];rfl) ?_;simp only[o])
   refine Bo.i rfl (fun W' m=>by simp[execOp,go_sem,ak W' m];rfl) ?_;simp only[o];refine ae3 rfl rfl 143 (.tmp 17) rfl wr.1.size 0 7 7 143 T rfl (fun W m=>aG.K m.1 bU) (dr rfl) _ iy rfl eH ?_;rw[cw];simp only[o];refine N6 143 #[T 0,T 1,T 2,T 3,T 4,T 5,T 6] rfl rfl (fun W'=>by simp[execOp,go_sem]) (fun W z _=>trivial) (fun W z h=>(E7 _ _ _ _ _ _ _).alloc W z h) (fun cx=>?_);simp only[o];refine Ti (.tmp 91) (.tmp 93) 48 rfl rfl N w.1.size 143 bO _ 7 16 underlying48 aW bP bQ bS rfl (dr rfl) (.slice ae M ag) M (j7 am) rfl cx 1 1 #[T 0,T 1,T 2,T 3,T 4,T 5,T 6] rfl rfl cv (fun W h=>h.2) (by unfold maxLen;omega) (by omega) (by omega) ?_;rintro dd ⟨A',cy,rfl⟩ ap
   iterate 2(simp only[o];refine Bo.i rfl (fun W' m=>by simp[execOp,go_sem];rfl) ?_)
   simp only[o];refine Bo.oQ ?_;intro w9 aa a1;have:w9.frozen? r=false:=(bx.a.dB.K aa.1 bx.f).free 0;have:=ak w9 aa;have cz:=aA aa a1;clear aa a1 ap ak aD
   go_wp2_with fail
   have⟨aa,a1⟩:=cz.y;have⟨X,_,af,aB,aC,_,_⟩:=bx.y;have cA:jr p.init ps k++kO k (q.F.take (j+1))=am++[⟨(k:Int),e⟩]:=by rw[ao.E,<-kZ,<-aB]
   have ap:=ao.b;have cC:some P.1.size≠(Value.slice ae M ag).ownBlock:=fun e=>ed aa.2 ((ap.Z af ap.lt).K aa.1 (fun e=>ed X.row (ap.Z af ap.lt) (dr rfl) e.s)) (dr rfl) e.s;refine⟨⟨j+1,.slice A' (M+1) cy,by omega,by go_num,?_,?_,?_⟩,by simp[intOf];omega⟩
   .rw[cA];refine X.put aF aC ?_ aa.1;rw[<-bw];exact a1
   .exact((ap.Z af ap.lt).K aa.1 cC).other _ _ (by show P.1.size≠r;omega)
   have bz:=af.size;have an:=aa.1.size;simp[World.setCell];omega
  have cD:j=E:=by omega
  subst cD;rw[show q.F.take j=q.F by rw[f.f];exact nH]at l;have aK:=f.e;rw[show kO k q.F=kO k (ps.getD k jU).F by rw[aK],<-I4]at l;have aD:=aA l I;clear l I
  go_upto_region 26 with fail
  have:aY+j<=48:=by
   have bz:=JM p.init ps (show k+1<=ps.length by omega);have an:gR p.init ps (k+1)=gR p.init ps k+(ps.getD k jU).F.length:=rfl;have cE:=f.G;rw[wU]at cE;have:=aX.y;have:=f.f;rw[f.e]at an;omega
  have⟨a7,cF⟩:=eX wr;subst cF;have aJ:=aD.B.C 1 (dr rfl);rw[s.I,show kF (.slice ad q.F.length L) (.slice au q.data.length Q) (.slice aw q.A.length ax) (.slice ay q.dP.length az) q.L 1= .slice au q.data.length Q from rfl]at aJ;have cG:=aD.a.y.size;have bX:=aD.B.lt;refine Bo.j2 (jY a7) (pW a7) (show Below _ _ _ from⟨rfl,rfl,rfl,av _,fun _ _=>rfl⟩) 6 (by kernel_rfl) (by kernel_rfl) ?_;simp only[st1]
  iterate 4(refine Bo.i rfl (fun W' m=>by simp[execOp,go_sem];rfl) ?_;simp only[o])
  refine Bo.i rfl (fun W' m=>by have c:=m.C (p:=⟨P.1.size,1,none⟩) bX;rw[aJ]at c;simp[execOp,go_sem,c];rfl) ?_;simp only[o];refine Bo.i rfl (fun W' m=>by simp[execOp,go_sem];rfl) ?_;simp only[o];refine Bo.oQ ?_;intro cH I aO;have I:Below a7 a7 cH:=I;have aL:=Km 3 148 (dr rfl) rfl (aD.a.Z I) aF au Q q.data aY (s.a.Z ((aD.a.y).t (I.m cG)) (av _)) (fun a e=>by have:=s.d a.block (by rw[e];rfl);omega) (fun x ak=>by have bz:=s.g.data x ak;have an:=f.f;omega) (by have:=s.g.acY;omega);have cI:=H (aD.B.Z I bX);clear aJ aO I
  go_wp2_with fail
  refine aL.m ?_;rintro e a9 ⟨rfl,I,aJ⟩;clear aL;have aL:=aA I (cI.y.K aJ (sn (by omega)));clear I aJ
  go_upto_region 27 with fail
  have aO:=aL.B.C 2 (dr rfl);rw[s.I,show kF (.slice ad q.F.length L) (.slice au q.data.length Q) (.slice aw q.A.length ax) (.slice ay q.dP.length az) q.L 2= .slice aw q.A.length ax from rfl]at aO;have cJ:=aL.a.y.size;have bY:=aL.B.lt;refine Bo.j2 (jY a9) (pW a9) (show Below _ _ _ from⟨rfl,rfl,rfl,av _,fun _ _=>rfl⟩) 6 (by kernel_rfl) (by kernel_rfl) ?_;simp only[st1]
  iterate 4(refine Bo.i rfl (fun W' m=>by simp[execOp,go_sem];rfl) ?_;simp only[o])
  refine Bo.i rfl (fun W' m=>by have c:=m.C (p:=⟨P.1.size,2,none⟩) bY;rw[aO]at c;simp[execOp,go_sem,c];rfl) ?_;simp only[o];refine Bo.i rfl (fun W' m=>by simp[execOp,go_sem];rfl) ?_;simp only[o];refine Bo.oQ ?_;intro cK I aS;have I:Below a9 a9 cK:=I;have aR:=Km 4 197 (dr rfl) rfl (aL.a.Z I) aF aw ax q.A aY (s.b.Z ((aL.a.y).t (I.m cJ)) (av _)) (fun a e=>by have:=s.e a.block (by rw[e];rfl);omega) (fun x ak=>by have bz:=s.g.A x ak;have an:=f.f;omega) (by have:=s.g.afa;omega);have cL:=H (aL.B.Z I bY);clear aO aS I
  go_wp2_with fail
  refine aR.m ?_;rintro e bb ⟨rfl,I,aS⟩;clear aR;have aO:=aA I (cL.y.K aS (sn (by omega)));clear I aS
  go_upto_region 28 with fail
  have aR:=aO.B.C 3 (dr rfl);rw[s.I,show kF (.slice ad q.F.length L) (.slice au q.data.length Q) (.slice aw q.A.length ax) (.slice ay q.dP.length az) q.L 3= .slice ay q.dP.length az from rfl]at aR;have cM:=aO.a.y.size;have bZ:=aO.B.lt;refine Bo.j2 (jY bb) (pW bb) (show Below _ _ _ from⟨rfl,rfl,rfl,av _,fun _ _=>rfl⟩) 6 (by kernel_rfl) (by kernel_rfl) ?_;simp only[st1]
  iterate 4(refine Bo.i rfl (fun W' m=>by simp[execOp,go_sem];rfl) ?_;simp only[o])
  refine Bo.i rfl (fun W' m=>by have c:=m.C (p:=⟨P.1.size,3,none⟩) bZ;rw[aR]at c;simp[execOp,go_sem,c];rfl) ?_;simp only[o];refine Bo.i rfl (fun W' m=>by simp[execOp,go_sem];rfl) ?_;simp only[o];refine Bo.oQ ?_;intro cO I aV;have I:Below bb bb cO:=I;have aS:=Km 5 246 (dr rfl) rfl (aO.a.Z I) aF ay az q.dP aY (s.c.Z ((aO.a.y).t (I.m cM)) (av _)) (fun a e=>by have:=s.f a.block (by rw[e];rfl);omega) (fun x ak=>by have:=s.g.dP x ak;have:=f.f;omega) (by have:=s.g.aeB;omega);have cP:=H (aO.B.Z I bZ);clear aR aV I
  go_wp2_with fail
  refine aS.m ?_;rintro e bc ⟨rfl,I,ak⟩;clear aS;have b0:=aA I (cP.y.K ak (sn (by omega)));clear I ak
  go_upto_region 29 with fail
  have cQ:k<4:=by omega
  have cR:(k:Int)<4:=by omega
  have cS:(0:Int)<=(k:Int):=by omega
  have cT:¬(k:Int)<0:=by omega
  refine Bo.j2 (jY bc) (pW bc) (show Below _ _ _ from⟨rfl,rfl,rfl,av _,fun _ _=>rfl⟩) 8 (by kernel_rfl) (by kernel_rfl) ?_;simp only[st1]
  iterate 3(refine Bo.i rfl (fun W' m=>by simp[execOp,go_sem];rfl) ?_;simp only[o])
  refine Jq rfl rfl 54 (.tmp 121) rfl P.1.size 4 8 12 135 G rfl b0.B (dr rfl) _ Sk rfl Mj ?_
  iterate 3(simp only[o];refine Bo.i rfl (fun W' m=>by simp[execOp,go_sem];rfl) ?_)
  simp only[o];refine Bo.i rfl (fun W' m=>by simp[execOp,go_sem,cR,cS,cT];rfl) ?_;simp only[o];refine Bo.oQ ?_;intro cU I aS;have I:Below bc bc cU:=I;have aa:=b0.a.Z I;have aR:∀i,G (4+i)= .int .u8 (Y (q.L i)):=fun i=>by
   rw[s.I];unfold kF;rw[O (by omega),O (by omega),O (by omega),O (by omega),tE]
  have bG:=aA aa aR;clear aS I aa aR;refine eP rfl 54 (.tmp 126) (.tmp 122) rfl r (295+k*8) 8 336 93 _ (fun i=>G (4+i)) rfl rfl bG.a.dB (by omega) Mj (fun i _=>a5 _) (h:=?_);intro cW aR aa;have aS:=bG.a.UE (W':=cW) aF cQ f.G f.e bG.B aR aa;have I:=H aS;clear aR aa aS;go_wp2;exact⟨⟨k+1,_,by omega,by go_num,I.y⟩,by simp[intOf];omega⟩
 have a2:k=ps.length:=by omega
 subst a2;have⟨aa,aS⟩:=eX (bd p.init ps);rw[show jr p.init ps ps.length=aa from aS.s]at l;have be:aa.length=y:=by rw[aS,aX.y];exact wU _ _ _
 have⟨ah,aV,ar,_,bf,bg⟩:=Me l.row;subst ar;have bh:=aey C.b bl C.c ps.length;rw[show jr p.init ps ps.length=aa from aS.s]at bh;have a3:=l.dB.C 0 (dr rfl);rw[yy _ _ _ _ _ (by omega),nV]at a3;have bi:∀a,ah=some a->w.1.size<=a.block/\a.block<P.1.size/\a.block≠r/\a.block≠w.1.size:=fun a e=>⟨(bg a e).1,(bg a e).2,fun e2=>ed l.row l.dB (dr rfl) (by rw[e];exact cs e2),fun e2=>ed l.row l.tmp (dr rfl) (by rw[e];exact cs e2)⟩
 have:=l.dB.lt;have b1:=H be;have bH:=QK ah aV aa P (by rw[be];exact br) bf;clear be;have I:=bM l aS bf bh bi;clear l aS bf bg bh bi
 go_wp2_with fail
 with_reducible refine bH.m ?_
 rintro e de ⟨rfl,l⟩;have:=l.size;have be:=aA (I.a.Z l) l;rw[nN,b1.y];clear bH;clear l a3;have L:=(be.a.y.C (p:=⟨aZ,1,none⟩) bn).t C.g
 go_upto_region 32 with(first|(refine eP rfl 53 (.tmp 135) (.tmp 133) rfl r 1 49 336 93 _ (dz y (oP aa)) rfl rfl be.a.dB (dr rfl) pq (fun i _=>aeZ _ _ i) (h:=?_);intro aS a3 aJ;have l:=aA (be.a.po aF I.b aX.y a3 aJ) aJ;clear a3 aJ))
 have:=(l.a.y.C (p:=⟨aZ,1,none⟩) bn).t C.g;have cX:=l.B.size;have a3:eG aS ah aa:=(I.c.Z be.B (av _)).same cX fun a e cY=>l.B.block _ cY (by intro e2;injection e2 with e2;exact(I.E a e).2.2.1 e2);have aJ:∀a,ah=some a->w.1.size<=a.block/\a.block<aS.1.size/\a.block≠r/\a.block≠w.1.size:=fun a e=>⟨(I.E a e).1,by have:=(I.E a e).2.1;omega,(I.E a e).2.2⟩
 have bi:=X0 r (mG (fU p.init ps) (.slice ah aa.length aV) nS nS nS) ah aV aa p.N aS l.a.dB (by rw[yy _ _ _ _ _ (by omega),nV]) a3 (fun a e=>⟨(aJ a e).2.2.1,(aJ a e).2.1⟩) (JG _ _ _ _ _) (Gi _ _ _ _ _) bl I.d (by rw[b1.y];exact br);have b2:=aA a3 aJ;clear a3 aJ
 go_wp2_with fail
 with_reducible refine bi.m ?_
 rintro e cZ ⟨rfl,R,S,U,cr,cs,cu,aS,a3,bf,bg,bh,ak⟩;clear bi;have aS:aj cZ r 93 336 (mG (fU p.init ps) (.slice ah aa.length aV) (.slice R (bu aa).length cr) (.slice S (bF aa).length cs) (.slice U p.N cu)):=aS.congr fun i aE=>abN _ _ _ _ _ _ _ _ i aE;have b3:=l.a.tmp.K ak (sn (by omega));have⟨bi,aJ⟩:=eX (mG (fU p.init ps) (.slice ah aa.length aV) (.slice R (bu aa).length cr) (.slice S (bF aa).length cs) (.slice U p.N cu));have c0:∀i,(bi i).oneCell'=true:=fun i=>by rw[aJ];exact Mg _ rfl rfl rfl rfl i
 rw[<-aJ]at aS;have bH:=jR aS b3 a3 bf bg bh ak aJ;clear aS b3 a3 bf bg bh ak aJ
 go_wp2_with (first|(refine nF rfl 93 (.tmp 9) rfl r 0 336 336 93 bi rfl bH.a (dr rfl) _ Ea rfl ur (h:=?_))|(refine eP rfl 93 (.tmp 4) (.tmp 142) rfl w.1.size 0 336 336 93 _ (fun i=>bi i) rfl rfl bH.b (dr rfl) ur (fun i _=>c0 _) (h:=?_);intro w9 aS b3;have aR:aj w9 w.1.size 93 336 bi:=aS.congr (fun i aE=>by unfold bm;rw[aq ⟨by omega,by omega⟩,ez]);have b4:=aA aR b3;clear aS b3 aR))
 refine bK (oT rfl _ b4.a _ rfl Ea rfl ur) rfl ?_;have⟨_,_,a3,bf,bg,bh,ak,aJ⟩:=bH.y;have aE:=aag (cr:=cr) (cs:=cs) (cu:=cu) (by rw[<-I.b];exact l.a) aF b2.B (by rw[<-I.b];exact b2.a) a3 (by rw[<-I.b];exact bf) (by rw[<-I.b];exact bg) (by rw[<-I.b];exact bh) ak b4.B;rw[<-I.b,<-aJ]at aE;rw[<-aX.y];exact⟨fun _=>⟨_,rfl,aE.1⟩,fun h=>by omega,aE.2⟩
structure gO where
 F:List aN
 x:XE
def qv(a:List aN)(b:Nat)(c:List Nat)(l:Nat):List Nat:=(eM (bI a l)).getD (c.getD (b+l) 0) []
def mO(a:List aN)(b:List Nat)(i:Nat):Nat:=((bF a).getD i []).getD (b.getD i 0) 0
def sw(c:XE)(a:List aN)(b:List Nat):Nat->Rl.Rows
 |0=>c.row 1
 |k+1=>ew (sw c a b k) (mO a b k) (sw c a b k (mO a b k)|||Bv.bit ((bu a).getD k 0))
def sE(a:XE)(b:List aN)(c:Nat)(e:List Nat):Nat->Rl.Rows
 |0=>a.row 2
 |l+1=>(kg (sE a b c e l) (qv b c e l)).1
def qF(a:List aN)(i:Nat):UInt8:=match a[i]? with
 |some x=>x.ev.val
 |none=>0
def oA(l:List Nat):Nat:=l.getD (l.length-1) 0
def yK(b:XE)(a:List aN)(c:Nat)(e:List Nat):Nat->Nat->UInt8
 |0=>b.mem
 |l+1=>P (yK b a c e l) l (qF a (oA (qv a c e l)))
def lf(a:XE)(b:List aN)(c:List Nat)(k:Nat):XE:=setRow a 1 (sw a b c k)
def ms(a:XE)(b:List aN)(c:Nat)(e:List Nat)(l:Nat):XE:={setRow (lf a b e c) 2 (sE a b c e l)with mem:=yK a b c e l}
def oE(b:XE)(a:List aN)(N:Nat)(c:List Nat):XE:=ms b a (bu a).length c N
def iK(a:List aN)(N:Nat):List Nat:=(bF a).map List.length++(gg a N).map fun w=>(eM w).length
def rI(b:XE)(a:List aN)(N:Nat):List gO:=(dL (iK a N)).map fun c=>⟨a,oE b a N c⟩
def JR(X)(k):setRow X k (X.row k)=X:=by
 unfold setRow P;cases X;simp only[XE.mk.injEq,zN,BZ]
 grind
def adU(X)(k)(f g):setRow (setRow X k f) k g=setRow X k g:=by
 unfold setRow;unfold P
 grind
def ZS(X)(F)(ds):lf X F ds 0=X:=JR X 1
def Xk(X)(F)(ds)(k):setRow (lf X F ds k) 1 (ew ((lf X F ds k).row 1) (mO F ds k) ((lf X F ds k).row 1 (mO F ds k)|||Bv.bit ((bu F).getD k 0)))=lf X F ds (k+1):=by
 unfold lf;rw[adU];rfl
def ace(X)(F)(nr)(ds):ms X F nr ds 0=lf X F ds nr:=by
 unfold ms;have h:setRow (lf X F ds nr) 2 (sE X F nr ds 0)=lf X F ds nr:=JR (lf X F ds nr) 2;rw[h];rfl
def adi(X)(F)(nr)(ds)(l):Fm (setRow (ms X F nr ds l) 2 (kg ((ms X F nr ds l).row 2) (qv F nr ds l)).1) l (qF F (oA (qv F nr ds l)))=ms X F nr ds (l+1):=by
 unfold ms Fm setRow;simp only[XE.mk.injEq,zN];constructor
 .funext i;unfold P;split<;>rfl
 rfl
def acq{ws x}(c:ws.length<=48)(h:x∈eM ws):x.length=ws.length/\∀a∈x,a∈ws:=by
 obtain⟨y,b,rfl⟩:=bX.1 h;have b:=Qs (f:=mN ws.length) (Rl.CP c _ _) b
 grind
attribute [irreducible] lf ms
def kD(W:World)(lo e:Nat)(A:Option Addr)(f:List (List Nat)):Prop:=
 e<=W.1.size/\(∀a,A=some a->lo<=a.block/\a.block<e)/\(0<f.length->∃b g,A=some ⟨b,g,none⟩/\∀k xs,f[k]? =some xs->∃B c,W.cell? ⟨b,g+k,none⟩=some (.slice B xs.length c)/\fK W B (ints xs)/\∀a,B=some a->lo<=a.block/\a.block<e)
def kD.of{W}{lo}{A}{xss}(h:ky W lo A xss):kD W lo W.1.size A xss:=⟨av _,h.1,h.2⟩
def kD.same{W W'}{lo hi}{A}{xss}(h:kD W lo hi A xss)(g:W.1.size<=W'.1.size)(i:∀b,lo<=b->b<hi->W'.1[b]? =W.1[b]?):kD W' lo hi A xss:=by
 refine⟨aO h.1 g,h.2.1,fun o=>?_⟩;obtain⟨b,off,rfl,r⟩:=h.2.2 o;refine⟨b,off,rfl,fun k xs u=>?_⟩;have⟨B,c,y,C,f⟩:=r k xs u;exact⟨B,c,(uW (w:=W) (a:=⟨b,off+k,none⟩) (i _ (h.2.1 _ rfl).1 (h.2.1 _ rfl).2)).t y,C.same g fun a e E=>i _ (f a e).1 (f a e).2,f⟩
def kD.at{W}{lo hi}{A}{xss}(h:kD W lo hi A xss):sC W A xss:=by
 intro f;obtain⟨b,off,rfl,i⟩:=h.2.2 f;have g:=h.1;refine⟨b,off,rfl,aW (h.2.1 _ rfl).2 g,fun k xs o=>?_⟩
 grind
structure zj(b o p0:Nat)(X:XE)(F:List aN)(N:Nat)(A:Option Addr)(ec:Nat)(R:Option Addr)(cr:Nat)(S:Option Addr)(cS:Nat)(U:Option Addr)(cu:Nat)(fp:List Nat)(W:World):Prop where
 box:Boxed W p0 138 (.pointer (some ⟨b,o,none⟩))
 cells:∀i,i<336->W.cell? ⟨b,o+i,none⟩=some (mG X (.slice A F.length ec) (.slice R (bu F).length cr) (.slice S (bF F).length cS) (.slice U N cu) i)
 blt:b<W.1.size
 ev:eG W A F
 rd:fK W R (ints (bu F))
 sr:sC W S (bF F)
 wr:sC W U (gg F N)
 iV:bh W
 Qh:2<W.1.size
 zH:∀q∈fp,q<W.1.size
def zj.Z{b o p0}{X}{F}{N}{A}{ec}{R}{cr}{S}{cS}{U}{cu}{fp}{W W'}{n}(h:zj b o p0 X F N A ec R cr S cS U cu fp W)(f:Below n W W')(g:W.1.size<=n):zj b o p0 X F N A ec R cr S cS U cu fp W':=by
 have:=h.blt;have:=h.box.lt;exact⟨(f.block _ (by omega)).t h.box,fun i hi=>(f.C (p:=⟨b,o+i,none⟩) (by grind)).t (h.cells i hi),aW h.blt f.size,h.ev.Z f g,h.rd.Z f g,h.sr.Z f g,h.wr.Z f g,h.iV.Z f (by have:=h.iV.lt;omega),aW h.Qh f.size,fun q r=>aW (h.zH q r) f.size⟩
def Lr(A:Option Addr):List Nat:=(A.map fun a=>a.block).toList
def PQ{A}{q}:q∈Lr A↔∃a,A=some a/\a.block=q:=by
 unfold Lr;simp_all
def zY(c:gO)(b:List Nat)(v:Value)(W:World):Prop:=∃A k,v= .agg (J 333 (xG c.x (.slice A c.F.length k)))/\eG W A c.F/\∀a,A=some a->a.block∈b
def ad2(F)(j)(u)(h:(j7 F)[j]? =some u):∃x,F[j/7]? =some x/\u=a6 x (j%7):=by
 have a:=(bL.1 h).1;rw[JN]at a;have b:j/7<F.length:=by omega
 have:=Mx F (j/7) _ (j%7) (aI b) (by omega)
 grind
def WH{F}{u}(h:u∈j7 F):u.oneCell'=true:=by
 have⟨x,_,h⟩:=mR.1 h;obtain⟨i,_,rfl⟩:=bX.1 h;exact sQ _ _
def Vr{W}{eb eo c}{F}(h:eG W (some ⟨eb,eo,none⟩) F)(n:eb<W.1.size)(o:F.length<=48):
 Calls prog 59 #[.slice (some ⟨eb,eo,none⟩) F.length c] W fun e f=>∃A' i,e= .returned (.slice A' F.length i)/\eG f A' F/\(∀a,A'=some a->W.1.size<=a.block/\a.block<f.1.size)/\Below W.1.size W f:=by
 refine(Nj ⟨eb,eo,none⟩ F.length c (j7 F) W (JN _) (fun j u g=>?_) (fun u g=>WH g) (by omega)).m ?_
 .obtain⟨x,l,rfl⟩:=ad2 F j u g;have:=(bL.1 l).1;have⟨b,p,e,_,q⟩:=h (by omega);rw[eV,show eo+j=eo+j/7*7+j%7 by omega]
  grind
 rintro e f ⟨v,rfl,m,r⟩;obtain⟨A',i,rfl,_,s,t⟩:=Me m
 grind
def Zn(X)(ve)(k)(a:k<6)(s)(b:s<48)(v)(i):aU (xG X ve) (1+49*k+1+s) (.int .u64 (Bv.U v)) i=xG (setRow X k (ew (X.row k) s v)) ve i:=by
 rw[<-CS X ve k a];rw[<-Lf (xG X ve) (1+49*k) (X.row k) s b v i];unfold aU;split
 .rfl
 rw[CS X ve k a,JR]
structure qU(W1:World)(xb:Nat)(X:XE)(A':Option Addr)(k':Nat)(F:List aN)(wr:World):Prop where
 x:aj wr xb 60 333 (xG X (.slice A' F.length k'))
 ev:eG wr A' F
 y:Below W1 W1 wr
 ab:∀a,A'=some a->W1.1.size<=a.block/\a.block<wr.1.size/\a.block≠xb
def qU.Z{W1}{xb}{X}{A'}{k'}{F}{wr w2}(h:qU W1 xb X A' k' F wr)(f:Below wr.1.size wr w2):qU W1 xb X A' k' F w2:=
 ⟨h.x.Z f h.x.lt,h.ev.Z f (av _),h.y.t (f.m h.y.size),fun a e=>⟨(h.ab a e).1,aW (h.ab a e).2.1 f.size,(h.ab a e).2.2⟩⟩
def qU.qi{W1}{xb}{X X'}{A'}{k'}{F}{wr w2}(h:qU W1 xb X A' k' F wr)(o:W1.1.size<=xb)(g:aj w2 xb 60 333 (xG X' (.slice A' F.length k')))(f:wr.grownBy w2 (some xb)):qU W1 xb X' A' k' F w2:=
 ⟨g,h.ev.same f.size fun a e i=>f.block _ i (by intro e2;injection e2 with e2;exact(h.ab a e).2.2 e2),h.y.b f h.y.size (fun b e=>by grind),fun a e=>⟨(h.ab a e).1,aW (h.ab a e).2.1 f.size,(h.ab a e).2.2⟩⟩
def abq{F}{r a}(h:a∈jK F r):a<F.length:=by
 unfold jK at h;split at h
 .exact(Bj.1 (nE.1 h).1).1
 cases h
def ints_at(l)(i v:Nat)(h:l[i]? =some v):(ints l).getD i 0=(v:Int):=by
 unfold ints
 grind
def Tc(F)(r):(jK F r).length<=F.length:=by
 unfold jK;split
 .rename_i x _;unfold pI;have a:=wM (fun i=>(F[i]?).any fun z=>z.ev.val==x.ev.val) (bI F x.ev.loc.toNat);have b:=vy F F.length x.ev.loc.toNat;unfold bI at*
  omega
 grind
section
def Zf(b o)(w):
 Calls prog 24 #[.pointer (some ⟨b,o,none⟩)] w fun e a=>e= .returned (.func (.func 57) #[] #[.pointer w.1.size])/\a=w.alloc (.cells #[.pointer (some ⟨b,o,none⟩)] 138):=by
 go_enter func24,ntmps24;go_wp2;go_ret;exact⟨rfl,rfl⟩
def sX{F}{n0}{P}(w){ops}{rest}{o}{a}{Q}(p:∀f,F.fn f)(q:o.guard=none)(s x)(t)
 (r:o.op= .call {callee:= .builtin .append,args:=#[s,x],argTypes:=#[t,t]})
 (base)(e)(i)(z)(size bytes)(y:P.underlying t=some (.slice e))(A:P.info? e=some i)(C:i.zero=some z)
 (E:i.size=size)(H:i.bytes=bytes)(I:z.cells.size=size)(J:0<size)
 (v)(n)(xs)(L:a.eval s=v)(M:w.ownsRow base e size v n xs)
 (ad)(m c)(news)(N:a.eval x= .slice (some ad) m c)(O:news.length=m*size)(R:∀j u,news[j]? =some u->w.cell? (ad.add j)=some u)(T:∀u∈news,u.oneCell'=true)
 (W:n+m<=maxLen)(X:(n+m)*bytes<=140737488355328)(aa:base<=w.1.size)
 (h:∀g l,l.ownsRow base e size g (n+m) (xs++news)->w.grownBy l v.ownBlock->(∀b,g.ownBlock=some b->v.ownBlock=some b\/w.1.size<=b)->wpListIn F n0 P ops Q rest (a.put o.dst g) l):wpListIn F n0 P ops Q (o::rest) a w:=by
 refine xr q fun K ab=>?_;have⟨g,l,ae,af,_,ag,ah⟩:=E3 (P:=P) w t o.type base e i z size bytes y A C E H I J v n xs M ad m c news O R T W X aa;unfold Oper.wpIn;refine⟨fun _ _=>p _,?_⟩;rw[oG F _ _ (by grind),Bo.Lm s x t r L N ae];exact ab _ _ (h g l af ag ah)
def PX(W:World)(v)(e)(n)(h:n=W.1.size):∀j u,[v][j]? =some u->(W.alloc (.cells #[v] e)).cell? ((⟨n,0,none⟩:Addr).add j)=some u:=by subst h;exact kN _ _ _
def adY:(prog.info? 91).map (fun i=>(i.zero,i.size,i.bytes))=some (some nS,1,24):=by kernel_rfl
structure tv(W:World)(F:List aN)(k:Nat)(rb:Nat)(v3 v6:Value)(S6:List Value)(wr:World):Prop where
 y:Below W W wr
 ja:wr.ownsRow W.1.size 3 1 v3 ((bF F).length+k) (nums ((bF F).map List.length++(List.range k).map fun l=>(eM (bI F l)).length))
 box:Boxed wr rb 139 v6
 row:wr.ownsRow W.1.size 91 1 v6 k S6
 each:∀l,l<k->∃B c lo hi,S6[l]? =some (.slice B (eM (bI F l)).length c)/\kD wr lo hi B (eM (bI F l))/\W.1.size<=lo/\(rb<lo\/hi<=rb)/\(∀b,v6.ownBlock=some b->b<lo\/hi<=b)/\∀b,v3.ownBlock=some b->b<lo\/hi<=b
def tv.next{W wr w3 o C:World}{F:List aN}{k i ad c2:Nat}{E H O v6':Value}{I:List Value}{J:Option Addr}{P Q:Obj}(h:tv W F k i E H I wr)(al:W.1.size<=i)(L:Below wr wr w3)(am:ky w3 wr.1.size J (eM (bI F k)))
 (an:o.ownsRow W.1.size 91 1 v6' (k+1) (I++[.slice J (eM (bI F k)).length c2]))(R:(w3.alloc P).grownBy o H.ownBlock)(M:∀b,v6'.ownBlock=some b->H.ownBlock=some b\/(w3.alloc P).1.size<=b)
 (ao:ad=(bF F).length+k)(ap:C.ownsRow W.1.size 3 1 O (ad+1) (nums ((bF F).map List.length++(List.range k).map fun l=>(eM (bI F l)).length)++[.int .i64 ((eM (bI F k)).length:Nat)]))
 (N:((o.setCell i v6').alloc Q).grownBy C E.ownBlock)(ae:∀b,O.ownBlock=some b->E.ownBlock=some b\/((o.setCell i v6').alloc Q).1.size<=b):
 tv W F (k+1) i O v6' (I++[.slice J (eM (bI F k)).length c2]) C:=by
 subst ao;have aq:=h.box.lt;have:=L.size;have:w3.1.size<o.1.size:=by have:=R.size;simp at this;omega
 have u:(o.setCell i v6').1.size=o.1.size:=by simp[World.setCell]
 have:o.1.size<=C.1.size:=by have:=N.size;simp only[cT,u]at this;omega
 have af:H.ownBlock≠some i:=fun e=>h.box.not_row (dr rfl) h.row e.s;have ar:E.ownBlock≠some i:=fun e=>h.box.not_row (dr rfl) h.ja e.s;have t4:∀q,q<w3.1.size->H.ownBlock≠some q->o.1[q]? =w3.1[q]?:=fun q y w=>(R.block q (by simp;omega) (fun e=>w e.s)).t (fF _ _ _ y);have t5:∀q,q<o.1.size->E.ownBlock≠some q->q≠i->C.1[q]? =o.1[q]?:=fun q y w f=>(N.block q (by simp only[cT,u];omega) (fun e=>w e.s)).t ((fF _ _ _ (by rw[u];exact y)).t (cP _ _ _ _ f));have au:Boxed o i 139 H:=(t4 i (by omega) af).t ((L.block i aq).t h.box);have T:Below W W o:=((h.y.t (L.m h.y.size)).alloc (by have:=h.y.size;omega) P).b R (by have:=h.y.size;simp;omega) (fun b e=>(h.row.lt b e).1);have av:∀b,v6'.ownBlock=some b->E.ownBlock≠some b:=fun b y w=>by
  obtain f|f:=M b y
  .obtain⟨A,_⟩|⟨g,_,_,A,_,ag,_⟩:=h.row.2
   .subst A;cases f
   subst A;have e1:g=b:=aR f;obtain⟨A,_⟩|⟨aw,_,_,A,_,ah,_⟩:=h.ja.2
   .subst A;cases w
   subst A;have e2:aw=b:=aR w;rw[e1]at ag;rw[e2,ag]at ah;have X:=aR ah;injection X with _ aa _;exact absurd aa (dr rfl)
  have:=(h.ja.lt b w).2;simp at f;omega
 have ax:v6'.ownBlock≠some i:=fun e=>by
  obtain f|f:=M i e
  .exact af f
  simp at f;omega
 refine⟨?_,?_,?_,?_,fun l ai=>?_⟩
 .exact((T.setCell (p:=i) al _).alloc (by rw[u];exact T.size) Q).b N (by simp only[cT,u];have:=T.size;omega) (fun b e=>(h.ja.lt b e).1)
 .rw[jh,kx,<-kZ];show C.ownsRow _ _ _ _ _ (nums (_++[(eM (bI F k)).length]));rw[pG];exact ap
 .have ay:=au.set v6';exact(N.block i (by simp only[cT,u];omega) (fun e=>ar e.s)).t ((fF _ _ _ (by rw[u];omega)).t ay)
 .exact dJ an fun b r ai=>t5 b ai (av b r) (fun e=>ax (by rw[<-e];exact r))
 have:I.length=k:=by have:=h.row.1;omega
 by_cases az:l<k
 .have⟨B,c,lo,hi,e1,e2,X,aa,aj,ak⟩:=h.each l az;have:=e2.1;refine⟨B,c,lo,hi,by rw[lE (by omega)];exact e1,e2.same (by omega) (fun b y w=>?_),X,aa,fun b r=>?_,fun b r=>?_⟩
  .rw[t5 b (by omega) (fun e=>by obtain h|h:=ak b e<;>omega) (by omega),t4 b (by omega) (fun e=>by obtain h|h:=aj b e<;>omega),L.block b (by omega)]
  .obtain f|f:=M b r
   .exact aj b f
   simp at f;omega
  obtain f|f:=ae b r
  .exact ak b f
  simp only[cT,u]at f;omega
 have aA:l=k:=by omega
 subst aA;have aB:=kD.of am;refine⟨J,c2,wr.1.size,w3.1.size,by rw[kB (by omega),show l-I.length=0 by omega];rfl,aB.same (by omega) (fun b y w=>?_),h.y.size,by omega,fun b r=>?_,fun b r=>?_⟩
 .rw[t5 b (by omega) (fun e=>by have:=(h.ja.lt b e).2;omega) (by omega),t4 b (by omega) (fun e=>by have:=(h.row.lt b e).2;omega)]
 .obtain f|f:=M b r
  .have:=(h.row.lt b f).2;omega
  simp at f;omega
 obtain f|f:=ae b r
 .have:=(h.ja.lt b f).2;omega
 simp only[cT,u]at f;omega
def tv.KE{W wr w3 w4}{F}{k rb}{v3 v6 v6'}{S6}{o1}(h:tv W F k rb v3 v6 S6 wr)(r:Below wr.1.size wr w3)(u:(w3.alloc o1).grownBy w4 v6.ownBlock):
 (w4.setCell rb v6').ownsRow W.1.size 3 1 v3 ((bF F).length+k) (nums ((bF F).map List.length++(List.range k).map fun l=>(eM (bI F l)).length)):=by
 have:=r.size;refine dJ h.ja fun b o w=>?_;have y:b≠rb:=fun e=>h.box.not_row (dr rfl) h.ja (by rw[o,e]);have i:v6.ownBlock≠some b:=fun i=>by
  obtain⟨f,_⟩|⟨g,_,_,f,_,A,_⟩:=h.row.2
  .subst f;cases i
  subst f;have:=aR i;obtain⟨f,_⟩|⟨C,_,_,f,_,E,_⟩:=h.ja.2
  .subst f;cases o
  subst f;have:=aR o
  grind
 exact(cP _ _ _ _ y).t ((u.block b (by simp;omega) (fun e=>i e.s)).t ((fF _ _ _ (by omega)).t (r.block b w)))
def tv.keep{W wr W1}{F}{k rb}{v3 v6}{S6}(h:tv W F k rb v3 v6 S6 wr)(f:∀b,W.1.size<=b->b<wr.1.size->W1.1[b]? =wr.1[b]?)(i:wr.1.size<=W1.1.size)(o:W.1.size<=rb):
 Boxed W1 rb 139 v6/\W1.ownsRow W.1.size 91 1 v6 k S6/\∀l,l<k->∃B c,S6[l]? =some (.slice B (eM (bI F l)).length c)/\sC W1 B (eM (bI F l)):=by
 refine⟨(f rb o h.box.lt).t h.box,dJ h.row fun b r g=>f b (h.row.lt b r).1 g,fun l g=>?_⟩;have⟨B,c,lo,hi,e1,e2,o,_⟩:=h.each l g;exact⟨B,c,e1,(e2.same i fun b r u=>f b (by omega) (by have:=e2.1;omega)).at⟩
structure wE(J:List gO->List Nat->World->Prop)(X:XE)(F:List aN)(N:Nat)(B0 B1:Nat)(Wl:World)(pre:List (List Nat))(fp:List Nat)(W:World):Prop where
 j:J (pre.map fun ds=>⟨F,oE X F N ds⟩) fp W
 own:∀b,B0<=b->b<B1->W.1[b]? =Wl.1[b]?
 L3:∀q∈fp,q<B0\/B1<=q
 zH:∀q∈fp,q<W.1.size
 size:B1<=W.1.size
def Pp{B0 B1}{fq gl fp3}{W1 wr W3}(a:Below W1.1.size W1 wr)(c:tx.fh B0 fq gl fp3 wr W3)(e:∀q∈gl,W1.1.size<=q/\q<wr.1.size)(g:B0<=B1):Rg.fh B1 fq fp3 W1 W3:=
 ⟨aO a.size c.size,fun b h=>by
   obtain h|h|h:=c.new b h
   .exact .inl h
   .exact .inr (e b h).1
   .exact .inr (aO a.size h),fun b i f j=>(c.keep b (.inl (aO g i)) (aW f a.size) j (fun h=>by have:=(e b h).1;omega)).t (a.block b f)⟩
def wE.next{J}{X}{F}{N B0 B1}{Wl}{pre}{ds}{fq gl fp3}{W1 wr W3}(h:wE J X F N B0 B1 Wl pre fq W1)(i:Below W1.1.size W1 wr)(g:tx.fh B0 fq gl fp3 wr W3)(E:∀q∈gl,W1.1.size<=q/\q<wr.1.size)(f:B0<=B1)
 (H:J ((pre.map fun ds=>⟨F,oE X F N ds⟩)++[⟨F,oE X F N ds⟩]) fp3 W3)(r:∀q∈fp3,q<W3.1.size):wE J X F N B0 B1 Wl (pre++[ds]) fp3 W3:=by
 have u:=h.size;have w:=i.size;refine⟨by grind,fun b o y=>?_,fun q A=>?_,r,aO u (aO w g.size)⟩
 .rw[g.keep b (.inl o) (by omega) (fun f=>by obtain C|C:=h.L3 b f<;>omega) (fun f=>by grind),i.block b (by omega),h.own b o y]
 obtain f|f|f:=g.new q A
 .exact h.L3 q f
 .grind
 omega
def wE.steps{J}{X}{F}{N B0 B1 B}{Wl}{g}{f}{W W'}(o:∀g f W1 i,J g f W1->Rg.Steps B0 f W1 i->J g f i)(h:wE J X F N B0 B1 Wl g f W)(r:B0<=B)(i:B1<=B)(i:Rg.Steps B f W W'):wE J X F N B0 B1 Wl g f W':=
 ⟨o _ _ _ _ h.j (i.less r),fun b k1 u=>(i.block b (by have:=h.size;omega) (.inl (by omega))).t (h.own b k1 u),h.L3,fun q w=>aW (h.zH q w) i.size,aO h.size i.size⟩
attribute [local go_sem] Oper.semAt_some Bv.fE Bv.fO Bv.fA Bv.fL Bv.fC Bv.gn Bv.fP Bv.fQ
def afy(b ai ar:Nat)(I:XE)(f:List aN)(N:Nat)(A:Option Addr)(bQ:Nat)(R:Option Addr)(cr:Nat)(S:Option Addr)(cW:Nat)(U:Option Addr)(cu:Nat)(w0:World)(aK:f.length<=48)(dT:N<=6)
 (C:∀l,l<N->(Rl.eL (bI f l).length (mN (bI f l).length)).length<=10000)(O:∀l,l<N->bI f l≠[])(Q:f≠[])(M:1<=N)(m:Nat):
 tx.mH Fence.wide m prog 57 #[.pointer (ar:Nat)] zY (rI I f N) (zj b ai ar I f N A bQ R cr S cW U cu) w0:=by
 intro au cn cX bi W w ad u T X aa z;have s:=u _ _ _ z;have ab:=s.box.C;have ae:=s.cells 334 (dr rfl);rw[Gi]at ae;have E:=s.cells 335 (dr rfl);rw[V2]at E;have cY:=s.box.lt;have cZ:=s.blt;have⟨cp,a0,cq,ct,cv⟩:=eQ Bn;have⟨a2,bl,c0,c1,bn⟩:=eQ adY;have:(bF f).length<=48:=by unfold bF bu;rw[cV];exact aO (Mz _ _) aK
 have P:=jR u T X z s ad w aa;have bp:=aD C O Q;clear u T X z s w ad C O Q aa;refine dh.2 ((dh (n:=9)).1 ?_);refine sZ func57 rfl trivial ?_ rfl;simp only[ntmps57,jC,gL,iP,Nat.reduceAdd,Nat.reduceSub,j8,j5,kh,kj,gG,iJ]
 gi_wp2_with fail
 have s:Boxed (W.alloc (.cells #[.func (.yield au) #[] #[]] 100)) W.1.size 100 (.func (.yield au) #[] #[]):=dE W _ _;have u:Below W.1.size W (W.alloc (.cells #[.func (.yield au) #[] #[]] 100)):=ba W _;generalize W.alloc (.cells #[.func (.yield au) #[] #[]] 100)=W1 at s u⊢;have cw:=aA s u;clear s u ae
 gi_loopw [3,22] (fun v i wr=>∃k:Nat,k<=(bF f).length/\i= .int .i64 k/\wr.ownsRow W.1.size 3 1 v k (nums (((bF f).take k).map List.length))/\Below W.1.size W wr/\Boxed wr W.1.size 100 (.func (.yield au) #[] #[])) (fun _ i _=>(bF f).length-(intOf i).toNat)
 case atStart=>exact⟨0,aQ _,rfl,gI _ _ _ _,cw.B,cw.a⟩
 obtain⟨k,c2,rfl,s,am,T⟩:=hrel;have a3:=am.size;by_cases bq:k<(bF f).length
 .have⟨a4,br,bS,bT,ae⟩:=P.e.sr (by omega);subst bS;obtain⟨xs,O⟩:∃xs,(bF f)[k]? =some xs:=⟨_,aI bq⟩
  have⟨B1,cx,u,_,_⟩:=ae k xs O;have c3:=(am.C (p:=⟨a4,br+k,none⟩) bT).t u;have cy:(k:Int)<(bF f).length:=by omega
  have z:((bF f).take (k+1)).map List.length=((bF f).take k).map List.length++[xs.length]:=by rw[jd,O];simp
  have⟨c4,C⟩:=eX xs.length;rw[<-C]at z c3;have aF:=aY s am T z;have cz:=T.lt;clear s am T z ae u C O
  gi_wp2_with (gi_at_builtin;refine sX _ (fun _=>trivial) rfl _ _ 65 rfl W.1.size 3 cp _ 1 8 underlying65 a0 cq ct cv rfl (dr rfl) _ k _ rfl (aF.a.alloc _) (wr.1.size:Nat) 1 1 [.int .i64 (c4:Int)] rfl rfl (kN _ _ _) (by simp[Value.oneCell']) (by unfold maxLen;omega) (by omega) (by simp;omega) ?_;intro ay w9 C z an)
  refine⟨⟨k+1,by omega,by go_num,?_,?_,?_⟩,by simp[intOf];omega⟩
  .rw[aF.D,pG];exact C
  .exact((aF.b.alloc a3 _).b z (by simp;omega) (fun b e=>(aF.a.lt b e).1))
  exact(aF.c.alloc _).K z (aF.c.not_row (dr rfl) aF.a)
 have bU:k=(bF f).length:=by omega
 subst bU;rw[nH]at s;have ag:=(am.C (p:=⟨b,ai+335,none⟩) cZ).t E;have ah:=(am.C (p:=(ar:Nat)) cY).t ab;have cz:=T.lt;have ak:b<wr.1.size:=by omega
 have al:ar<wr.1.size:=by omega
 have bV:=aD s am T;clear s am T E ab
 gi_wp2_with fail
 have E:∀aw,aw=wr.alloc (.cells #[nS] 139)->tv W f 0 wr.1.size u3 nS [] aw/\Boxed aw W.1.size 100 (.func (.yield au) #[] #[])/\aw.1.size=wr.1.size+1:=by
  rintro aw rfl;refine⟨⟨bV.b.alloc a3 _,?_,dE wr _ _,gI _ _ _ _,fun l af=>absurd af (jD _)⟩,bV.C.alloc _,by simp⟩;rw[vY,List.range_zero,pR,kL];exact bV.a.alloc _
 generalize Q:wr.alloc (.cells #[nS] 139)=aw;have⟨s,X,c5⟩:=E aw Q.s;have⟨aG,aa⟩:=eX wr.1.size;rw[<-aa]at s c5 cz a3⊢;have cA:=aA s X;clear E Q s X ag ah ak al aa
 gi_loopw [3,37] (fun v i wr=>∃(k:Nat)(X:Value)(aa:List Value),k<=N/\i= .int .i64 k/\tv W f k aG v X aa wr/\Boxed wr W.1.size 100 (.func (.yield au) #[] #[])) (fun _ i _=>N-(intOf i).toNat)
 case atStart=>exact⟨0,_,_,aQ _,rfl,cA.a,cA.B⟩
 obtain⟨k,X,aa,c2,rfl,s,T⟩:=hrel;have:=s.y.size;by_cases bq:k<N
 .have⟨c6,c7,c8,c9,ab⟩:=P.e.wr (by unfold gg;simp;omega);subst c8;have⟨bs,Q⟩:=eX (bI f k);have⟨B1,cx,u,bY,aL⟩:=ab k bs (by unfold gg;rw[dG,pU bq,Q];rfl);have:=(s.y.C (p:=⟨c6,c7+k,none⟩) c9).t u;have bZ:bs.length<=48:=by rw[Q];exact aO (vy _ _ _) aK
  have ag:=agC B1 cx bs wr bZ (bY.Z s.y (av _)) (fun a e=>by have:=aL a e;omega) (by rw[Q];exact bp.a k bq) (P.e.iV.Z s.y P.e.iV.lt) (by have:=P.e.Qh;omega);have cy:(k:Int)<N:=by omega
  have:=s.box.lt;have E:=aD s T Q;clear s T ab u bY aL Q
  gi_wp2_with fail
  first|refine⟨trivial,fun h=>(by cases h),?_⟩|refine⟨trivial,?_⟩
  refine(dh.2 ag).m ?_;rintro e az ⟨b0,b1,rfl,ak,u⟩;clear ag;have ag:=(E.a.box.alloc (.cells #[] 3))
  have dU:=u.size;have da:=(u.C (p:=aG) (by show aG<_;omega)).t E.a.box.C;have⟨L,ab⟩:=eX (eM bs).length;rw[<-ab];have Q:=bM ak u ab (bP E.a.row u) (show Boxed az aG 139 X from(u.block _ E.a.box.lt).t E.a.box);clear ak u ab ag
  gi_wp2_with (first|(gi_at_builtin;refine sX _ (fun _=>trivial) rfl _ _ 139 rfl W.1.size 91 a2 _ 1 24 underlying139 bl c0 c1 bn rfl (dr rfl) X k aa rfl (Q.d.alloc _) az 1 1 [.slice b0 L b1] rfl rfl (kN _ _ _) (by simp[Value.oneCell']) (by unfold maxLen;omega) (by omega) (by simp;omega) ?_;intro ay w9 C z an;have⟨ab,ak,ag⟩:=bo C (dr rfl);subst ag;have bJ:=((Q.E.alloc _).K z (Q.E.not_row (dr rfl) Q.d)).C;have f9:=((Q.E.alloc _).K z (Q.E.not_row (dr rfl) Q.d)).frozen;have ao:=E.a.KE (v6':= .slice ab (k+1) ak) Q.b z;have:az.1.size<=w9.1.size:=by have:=z.size;simp at this;omega)|(gi_at_builtin;refine sX _ (fun _=>trivial) rfl _ _ 65 rfl W.1.size 3 cp _ 1 8 underlying65 a0 cq ct cv rfl (dr rfl) _ ((bF f).length+k) _ rfl (ao.alloc _) w9 1 1 [.int .i64 (L:Int)] rfl rfl (PX _ _ _ _ (by simp[World.setCell])) (by simp[Value.oneCell']) (by unfold maxLen;omega) (by omega) (by simp[World.setCell];omega) ?_;intro aB aC ap al ax))
  have db:W.1.size<=aG:=a3;have dd:L=(eM (bI f k)).length:=by rw[Q.c,E.C]
  refine⟨⟨k+1,.slice ab (k+1) ak,aa++[.slice b0 L b1],by omega,by go_num,?_,?_⟩,by simp[intOf];omega⟩
  .rw[dd]at C ap al ax⊢;rw[E.C]at Q;exact E.a.next db Q.b Q.a C z an rfl ap al ax
  have ag:Boxed az W.1.size 100 (.func (.yield au) #[] #[]):=(Q.b.block _ E.b.lt).t E.b;have de:=(ag.alloc (.cells #[.slice b0 L b1] 91)).K z (ag.not_row (dr rfl) Q.d);have cC:=de.other (show W.1.size≠aG by omega) (.slice ab (k+1) ak);exact(cC.alloc _).K al (cC.not_row (dr rfl) ao)
 have bU:k=N:=by omega
 subst bU;have ab:(bF f).map List.length++(List.range k).map (fun l=>(eM (bI f l)).length)=iK f k:=by
  unfold iK gg;rw[pN];rfl
 have z:=s.ja;rw[ab]at z;have⟨ns,X⟩:=eX (iK f k);rw[<-X]at z;have⟨aB,aM,cD,aa,_,C⟩:=tI z;rw[cD]at z s;subst cD;rw[<-aa]at z s⊢;have:ns.length<=54:=by rw[aa];omega
 have E:=bM s T X C (show∀a,aB=some a->W.1.size<=a.block/\a.block<wr.1.size from fun a e=>z.lt a.block (by rw[e];rfl));clear s T ab z aa X C
 gi_wp2_with fail
 first|refine⟨trivial,fun h=>(by cases h),?_⟩|refine⟨trivial,?_⟩
 refine(dh.2 (SL aB ns.length aM wr)).m ?_;rintro e aS ⟨rfl,rfl⟩;have z:Boxed (wr.alloc (.cells #[.slice aB ns.length aM] 65)) wr.1.size 65 (.slice aB ns.length aM):=dE wr _ _;have X:Below wr.1.size wr (wr.alloc (.cells #[.slice aB ns.length aM] 65)):=ba wr _;have⟨ax,aa⟩:=eX (wr.alloc (.cells #[.slice aB ns.length aM] 65));have ab:ax.1.size=wr.1.size+1:=by rw[aa];simp
 rw[<-aa]at z X⊢;have⟨ob,al⟩:=eX wr.1.size;rw[<-al]at z ab⊢;have⟨B1,an⟩:=eX ax.1.size;have ak:=bM z X al an ab;clear z X aa an ab al
 gi_wp2_with fail
 have:=ak.b.size;have:B1=ob+1:=by rw[ak.d];exact ak.E
 have:ob=wr.1.size:=ak.c;have:B1=ax.1.size:=ak.d;have z:wE cn I f k W.1.size B1 ax [] bi ax:=by
  have cE:Below W.1.size W ax:=E.a.y.t (ak.b.m E.a.y.size);refine⟨P.b _ _ _ _ P.d (.gz cE),fun b _ _=>rfl,fun q an=> .inl (P.f q an),fun q an=>aW (P.f q an) cE.size,by omega⟩
 have C:fK ax aB (ints ns):=E.d.Z ak.b (av _);have X:∀n∈ns,n<=100000000:=by
  intro n b2;rw[E.c]at b2;unfold iK at b2;obtain h|h:=mg.1 b2
  .obtain⟨x,T,rfl⟩:=bX.1 h;unfold bF at T;obtain⟨r,_,rfl⟩:=bX.1 T;have:=Tc f r;omega
  obtain⟨x,T,rfl⟩:=bX.1 h;unfold gg at T;obtain⟨l,af,rfl⟩:=bX.1 T;have:=bp.a l (fS.1 af);unfold eM;rw[cV];omega
 have bt:=aD z C X;clear z C X;refine np.one (n:=9) rfl (by omega) (gf:=98) (lb:=#[.pointer ob]) rfl trivial (gH func98 (by kernel_rfl) rfl) (aP _ _) (wE cn I f k W.1.size B1 ax) (fun c aC W=>c= .ret/\aC<+:dL ns/\cX (aC.map fun z=>⟨f,oE I f k z⟩) W) (fun aC bi W' h=>⟨bt.b.same (by have:=h.size;omega) (fun a e af=>h.own _ (E.E a e).1 (by have:=(E.E a e).2;omega)),(h.own ob (by omega) (by omega)).t ak.a,h.zH⟩) (fun c aC W1 l ai ab M C X aa=>⟨aa.1,aa.2.1,P.H _ _ _ _ _ (by omega) C X aa.2.2⟩) bi (fun b am=>by have:=P.f b am;omega) bt.a ?done ?stop (Nb ns aB aM ob ax (by omega) bt.C bt.b ak.a 8) rfl (fun x v W l ai ab M C X=>Ra W l ai ab M C X) (fun aC bi W1 aa h X=>h.steps P.b (by omega) (by omega) X) ?a1 ?assign ?body
 case assign=>
  intro l v W1 K aT
  gi_wp2
  exact aT
 case stop=>
  rintro D c aC W1 df ab ⟨rfl,_,X⟩ aT;have bv:=aA ab X;clear ab X
  gi_wp2
  refine⟨by simp,.inl ⟨_,_,rfl,mj aT,?_⟩⟩;refine⟨_,ju rfl _ _ _,⟨_,rfl⟩,.inr ⟨_,?_,P.H _ _ _ _ _ (by omega) aT rfl bv.B⟩⟩;unfold rI;rw[<-E.c];exact bv.a.map _
 case done=>
  rintro D bw W1 df aa dg aT;have bv:=H aa;clear aa
  gi_wp2
  refine⟨by simp,.inl ⟨_,_,rfl,mj aT,?_⟩⟩;have di:Rg.Steps W.1.size bw W1 (W1.putObj D (.deferred none)):=by
   refine⟨rfl,rfl,rfl,by simp[World.putObj],fun q M C=>dX ?_⟩;obtain C|C:=C
   .omega
   exact fun e=>dg (by rw[<-e];exact C)
  refine⟨_,ju rfl _ _ _,⟨_,rfl⟩,.inl ⟨bw,P.b _ _ _ _ ?_ di⟩⟩;unfold rI;rw[<-E.c];exact bv.y.j
 case body=>
  rintro l aC bw z v W1 aa ab ⟨g,rfl,al⟩ dV ad;have X:=P.a _ _ _ aa.j;have ao:z∈dL ns:=by
   obtain⟨t,dj⟩:=ab;rw[<-dj];simp
  have⟨ap,ay⟩:=uM ao;have:=aa.size;have b3:=aA (E.a.keep (W1:=W1) (fun b M C=>(aa.own b M (by omega)).t (ak.b.block b C)) (by omega) a3) (show Boxed W1 W.1.size 100 (.func (.yield au) #[] #[])from(aa.own _ (av _) (by have:=E.b.lt;omega)).t ((ak.b.block _ E.b.lt).t E.b));have ah:=X.box.C;have b4:=X.box.lt;have aL:=X.blt;have⟨dk,dl,dm,dW,_⟩:=X.ev (by have:=bp.C;have:=yT.2 this;omega);subst dm;have⟨aH,C⟩:=eX (Value.slice (some ⟨dk,dl,none⟩) f.length bQ);have dn:aH.oneCell'=true:=by rw[C];rfl
  have aE:W1.rangeAt b ai ((List.range 333).map (xG I aH)):=by
   intro j v b5;have a0:j<333:=by have:=(bL.1 b5).1;simpa using this
   rw[X.cells j (by omega),yy _ _ _ _ _ a0,<-C];simp[a0]at b5;rw[b5]
  have:=FN;have M:=pn aa ab al X ap ay C aE (show aj (W1.alloc (.cells (J 333 (iu 0)) 60)) W1.1.size 60 333 (iu 0)from aj.new _ _ _ _) ad;clear aa ab al X ap ay C aE ad ao
  gi_wp2_with (first|(refine Fb rfl 60 (.tmp 58) rfl b ai rfl ((List.range 333).map (xG I aH)) _ M.h vM rfl pV (h:=?_);simp only[o])|(refine uL rfl 60 (.tmp 11) (.tmp 59) rfl W1.1.size 0 333 333 60 (iu 0) (xG I aH) rfl rfl M.i (dr rfl) pV (fun i _=>Gv I dn i) (h:=?_);intro aw ab ad;have X:aj aw W1.1.size 60 333 (xG I aH):=ab.congr (fun i bl=>by unfold bm;rw[aq ⟨by omega,by omega⟩,ez]);have ao:=fJ ad;have C:=aA X ao;have al:=X.C 0 (dr rfl);have ap:=X.free 0;rw[nV,M.g]at al;clear ab ad X ao;simp only[o]))
  have X:=M.d.ev.Z C.B (av _);have bn:=C.B.size;have ab:=Vr (c:=bQ) X (by omega) aK;clear X;generalize Value.agg (List.map (xG I aH) (List.range 333)).toArray=vx59;refine⟨trivial,?_⟩;refine(dh.2 ab).inRound l|>.mono ?_;rintro e az ⟨A',k',rfl,ay,X,u⟩;dsimp only;clear ab;have ag:=C.a.Z u C.a.lt;have cF:=C.a.lt;have aE:=(u.C (p:=(W1.1.size:Nat)) cF).t al;have aJ:=(u.frozen (p:=(W1.1.size:Nat)) cF).t ap;have:=u.size;have⟨ab,ao⟩:=eX W1.1.size;have ad:∀aS,aS=az.setCell (W1.1.size:Nat) (.slice A' f.length k')->qU W1 ab I A' k' f aS:=by
   rintro aS rfl;rw[ao];refine⟨(ag.set 0 _).congr fun i _=>M0 I aH _ i,ay.same (by simp[World.setCell]) fun a e af=>cP _ _ _ _ (by have:=(X a e).1;show a.block≠W1.1.size;omega),(C.B.t (u.m bn)).setCell (p:=(W1.1.size:Nat)) (av _) _,fun a e=>⟨by have:=(X a e).1;omega,by have:=(X a e).2;simp[World.setCell];omega,by have:=(X a e).1;omega⟩⟩
  have Q:=aA ad ao;have a5:=H u;clear ad ag ay X u ao al ap;have u:Below W1.1.size W1 az:=C.B.t (a5.y.m bn);have ag:=(u.C (p:=(ar:Nat)) b4).t ah;have C:=(u.C (p:=⟨b,ai+333,none⟩) aL).t (M.d.cells 333 (dr rfl));rw[JG]at C;clear u ah
  gi_wp2_with fail
  have⟨aS,u⟩:=eX (az.setCell (W1.1.size:Nat) (.slice A' f.length k'));have ad:=Q.a aS u;rw[<-u,<-Q.B];have b6:W1.1.size<=ab:=by have:=Q.B;omega
  have dp:=H ad;clear ad aE aJ u ag C
  gi_loopw [69] (fun i wr=>∃a2:Nat,a2<=(bu f).length/\i= .int .i64 a2/\qU W1 ab (lf I f z a2) A' k' f wr) (fun i _=>(bu f).length-(intOf i).toNat)
  case atStart=>exact⟨0,aQ _,rfl,by rw[ZS];exact dp.y⟩
  obtain⟨C,bY,rfl,s⟩:=hrel;by_cases cG:C<(bu f).length
  .have⟨dq,ds,dt,du,bc⟩:=M.d.rd (by rw[iL];omega);subst dt;obtain⟨aJ,u⟩:∃aJ,(bu f)[C]? =some aJ:=⟨_,aI cG⟩
   have bd:=(s.y.C (p:=⟨dq,ds+C,none⟩) du).t (bc C (by rw[iL];exact cG));rw[ints_at _ _ _ u]at bd;have ay:(bF f).length=(bu f).length:=by unfold bF;rw[cV]
   have⟨a4,br,bS,bT,ae⟩:=M.d.sr (by omega);subst bS;obtain⟨xs,O⟩:∃xs,(bF f)[C]? =some xs:=⟨_,aI (by omega)⟩
   have be:xs=jK f aJ:=by
    unfold bF at O;rw[dG,u]at O;exact(aR O).s
   have⟨dY,dZ,bf,bg,bK⟩:=ae C xs O;have ao:=(s.y.C (p:=⟨a4,br+C,none⟩) bT).t bf;have aU:ns[C]? =some xs.length:=by
    rw[E.c];unfold iK;rw[lE (by rw[cV];omega),dG,O];rfl
   have dv:C<ns.length:=(bL.1 aU).1;have a6:C<z.length:=by rw[M.e];exact dv
   obtain⟨d,ah⟩:∃d,z[C]? =some d:=⟨_,aI a6⟩
   have aV:d<xs.length:=M.f C d xs.length ah aU;have aX:=(s.y.C (p:=⟨g,C,none⟩) M.c.lt).t (M.c.C C a6);rw[show z.getD C 0=d by rw[bj,ah];rfl]at aX;have⟨a7,bx,b7,b8,a8⟩:=bg (by rw[iL];omega);subst b7;obtain⟨X,al⟩:∃X,xs[d]? =some X:=⟨_,aI aV⟩
   have ap:=(s.y.C (p:=⟨a7,bx+d,none⟩) b8).t (a8 d (by rw[iL];exact aV));rw[ints_at _ _ _ al]at ap;have cH:X<48:=aW (abq (by rw[<-be];exact cB al)) aK;have af:=s.x.C (51+X) (by omega);rw[show xG (lf I f z C) (.slice A' f.length k') (51+X)= .int .u64 (Bv.U ((lf I f z C).row 1 X))from xe _ _ 1 X (dr rfl) cH]at af;have ag:=(s.y.C (p:=(ar:Nat)) b4).t M.d.box.C;have aZ:=(s.y.C (p:=⟨b,ai+334,none⟩) aL).t (M.d.cells 334 (dr rfl));rw[Gi]at aZ;have bz:mO f z C=X:=by
    unfold mO;rw[bj,bj,bj,O,ah];show xs[d]?.getD 0=X;rw[al];rfl
   have:aJ<48:=by
    have h:=cB u;unfold bu fT at h;have:=fS.1 (nE.1 h).1;omega
   have aE:(bu f).getD C 0=aJ:=by rw[bj,u];rfl
   have⟨ea,a9⟩:=eX ((lf I f z C).row 1 X);rw[<-a9]at af;have⟨dw,bh⟩:=eX xs.length;rw[<-bh]at ao aV;have eb:=s.y.size;have bb:=M.c.lt;have b9:=s.x.lt;have cy:(C:Int)<(bu f).length:=by omega
   have dx:(C:Int)<(bF f).length:=by omega
   have cI:(0:Int)<=(C:Int):=by omega
   have cJ:¬(C:Int)<0:=by omega
   have dy:(C:Int)<z.length:=by omega
   have dz:(d:Int)<dw:=by omega
   have dA:(0:Int)<=(d:Int):=by omega
   have dB:¬(d:Int)<0:=by omega
   have bG:(X:Int)<48:=by omega
   have cL:(0:Int)<=(X:Int):=by omega
   have bH:¬(X:Int)<0:=by omega
   have ca:¬(aJ:Int)<0:=by omega
   have cb:(0:Int)<=(aJ:Int):=by omega
   have ad:=aY s bz aE a9;clear s bc u ae bf bg bK O be aU ah a8 al bz aE a9 bh ay
   gi_upto_region 22 with fail
   refine yh (by kernel_rfl) (by kernel_rfl) (fun h=>by obtain⟨_,_,h⟩:=h;exact h) ?_;refine Bo.AO (jY wr) (pW wr) (show Below _ _ _ from⟨rfl,rfl,rfl,av _,fun _ _=>rfl⟩) 23 (by kernel_rfl) ?_;simp only[st1];refine Bo.i rfl (fun W' w=>by have c:=w.C (p:=(ar:Nat)) (by show ar<wr.1.size;omega);rw[ag]at c;simp[execOp,go_sem,c];rfl) ?_
   iterate 2(simp only[o];refine Bo.i rfl (fun W' w=>by simp[execOp,go_sem];rfl) ?_)
   simp only[o];refine Bo.i rfl (fun W' w=>by have c:=w.C (p:=⟨b,ai+334,none⟩) (by show b<wr.1.size;omega);rw[aZ]at c;simp[execOp,go_sem,c];rfl) ?_;simp only[o];refine Bo.i rfl (fun W' w=>by simp[execOp,go_sem];rfl) ?_;simp only[o];refine Bo.i rfl (fun W' w=>by simp[execOp,go_sem,dx,cI,cJ];rfl) ?_;simp only[o];refine Bo.i rfl (fun W' w=>by have c:=w.C (p:=⟨a4,br+C,none⟩) (by show a4<wr.1.size;omega);rw[ao]at c;simp[execOp,go_sem,c];rfl) ?_
   iterate 2(simp only[o];refine Bo.i rfl (fun W' w=>by simp[execOp,go_sem];rfl) ?_)
   simp only[o];refine Bo.i rfl (fun W' w=>by simp[execOp,go_sem,dy,cI,cJ];rfl) ?_;simp only[o];refine Bo.i rfl (fun W' w=>by have c:=w.C (p:=⟨g,C,none⟩) (by show g<wr.1.size;omega);rw[aX]at c;simp[execOp,go_sem,c];rfl) ?_;simp only[o];refine Bo.i rfl (fun W' w=>by simp[execOp,go_sem,dz,dA,dB];rfl) ?_;simp only[o];refine Bo.i rfl (fun W' w=>by have c:=w.C (p:=⟨a7,bx+d,none⟩) (by show a7<wr.1.size;omega);rw[ap]at c;simp[execOp,go_sem,c];rfl) ?_
   iterate 2(simp only[o];refine Bo.i rfl (fun W' w=>by simp[execOp,go_sem];rfl) ?_)
   simp only[o];refine Bo.i rfl (fun W' w=>by simp[execOp,go_sem,bG,cL,bH];rfl) ?_;simp only[o];refine Bo.i rfl (fun W' w=>by have c:=w.C (p:=⟨ab,51+X,none⟩) (by show ab<wr.1.size;omega);rw[af]at c;simp[execOp,go_sem,c];rfl) ?_;simp only[o];refine Bo.i rfl (fun W' w=>by simp[execOp,go_sem];rfl) ?_;simp only[o];refine Bo.i rfl (fun W' w=>by simp[execOp,go_sem,ca,cb];rfl) ?_
   iterate 3(simp only[o];refine Bo.i rfl (fun W' w=>by simp[execOp,go_sem];rfl) ?_)
   simp only[o];refine Bo.i rfl (fun W' w=>by simp[execOp,go_sem,bG,cL,bH];rfl) ?_;simp only[o];refine Bo.oQ ?_;intro w9 ae cc;have ae:Below wr.1.size wr w9:=ae;have bJ:=(ae.C (p:=⟨ab,51+X,none⟩) b9).t af;have f9:w9.frozen? ⟨ab,51+X,none⟩=false:=(ad.a.x.Z ae b9).free _;have al:=H ae;clear ae cc ag aZ ao aX ap af bd
   go_wp2_with fail
   gi_wp2_with fail
   have⟨s,bz,aE,a9⟩:=ad.y;have bc:=s.Z al.y;refine⟨⟨C+1,by omega,by go_num,bc.qi b6 ?_ (mL _ _ _ _)⟩,by simp[intOf];omega⟩;rw[<-Xk,bz,aE,<-a9];exact(bc.x.set _ _).congr fun i _=>Zn _ _ 1 (dr rfl) X cH _ i
  have dD:C=(bu f).length:=by omega
  subst dD;have⟨O,ao⟩:=eX (bu f).length;have ay:(bF f).length=O:=by unfold bF;rw[cV,ao]
  have bd:ns.length=O+k:=by
   rw[E.c];unfold iK gg;rw[dc,cV,cV,cV,pM,ay]
  have bJ:z.length=O+k:=by rw[M.e,bd]
  have:=(s.y.C (p:=(ar:Nat)) b4).t M.d.box.C;have cM:=(s.y.C (p:=⟨b,ai+333,none⟩) aL).t (M.d.cells 333 (dr rfl));rw[JG]at cM;have af:qU W1 ab (ms I f O z 0) A' k' f wr:=by rw[ace,ao];exact s
  rw[<-ao]at cM⊢;have:¬(O:Int)<0:=by omega
  have:(0:Int)<=(O:Int):=by omega
  have:(O:Int)<=z.length:=by omega
  have:(z.length:Int)-O=(k:Int):=by omega
  have:¬z.length=O:=by omega
  have:¬O=z.length:=by omega
  have dF:=H (show z.length-O=k by omega);have a5:=bM af ao ay bd bJ;clear s af ao ay bd bJ
  gi_wp2_with fail
  try rw[dF.y]
  gi_loopw [106] (fun i wr=>∃u:Nat,u<=k/\i= .int .i64 u/\qU W1 ab (ms I f O z u) A' k' f wr) (fun i _=>k-(intOf i).toNat)
  case atStart=>exact⟨0,aQ _,rfl,a5.a⟩
  obtain⟨u,ec,rfl,s⟩:=hrel;by_cases cd:u<k
  .have:=s.y.size;have⟨_,ao,ay,bd,bJ⟩:=a5.y;have⟨ce,be,cO⟩:=b3.a;have⟨B,c,e1,cf⟩:=cO u cd;have⟨ed,da,dH⟩:=bo be (dr rfl);have dI:=ce.lt;have cQ:=(s.y.C (p:=aG) dI).t ce.C;obtain⟨bf,ee⟩|⟨bK,ef,eg,bf,_⟩:=be.2
   .omega
   have dJ:=(be.lt bK (by rw[bf];rfl)).2;have ag:W1.cell? ⟨bK,u,none⟩=some (.slice B (eM (bI f u)).length c):=by
    have:=be.cells (g:=bK) (by rw[bf];rfl) u _ e1;rw[eV,cK]at this;exact this
   have cg:=(s.y.C (p:=⟨bK,u,none⟩) dJ).t ag;clear ag;rw[bf]at cQ;have⟨aZ,bg⟩:=eX (eM (bI f u));rw[<-bg]at cf cg;have aU:ns[O+u]? =some aZ.length:=by
    rw[E.c,bg];unfold iK gg;rw[kB (by rw[cV];omega),cV,ay,tE,dG,dG,pU cd];rfl
   have a6:O+u<z.length:=by omega
   obtain⟨d,ah⟩:∃d,z[O+u]? =some d:=⟨_,aI a6⟩
   have aV:d<aZ.length:=M.f (O+u) d aZ.length ah aU;have aX:=(s.y.C (p:=⟨g,O+u,none⟩) M.c.lt).t (M.c.C (O+u) a6);rw[show z.getD (O+u) 0=d by rw[bj,ah];rfl]at aX;have⟨a7,bx,b7,b8,a8⟩:=cf (by omega);subst b7;obtain⟨ag,bN⟩:∃ag,aZ[d]? =some ag:=⟨_,aI aV⟩
   have⟨dK,dM,cR,ch,bO⟩:=a8 d ag bN;have cS:=(s.y.C (p:=⟨a7,bx+d,none⟩) b8).t cR;have ci:(bI f u).length<=48:=aO (vy _ _ _) aK;have bh:=acq ci (by rw[<-bg];exact cB bN);have cj:∀a∈ag,a<48:=fun a dN=>aW (Bj.1 (bh.2 a dN)).1 aK;have dO:0<(bI f u).length:=yT.2 (bp.b u cd);have cT:0<ag.length:=by rw[bh.1];exact dO
   have dP:ag.length<=48:=by rw[bh.1];exact ci
   have aE:qv f O z u=ag:=by
    unfold qv;rw[<-bg,bj,bj,ah];show aZ[d]?.getD []=ag;rw[bN];rfl
   have cl:=QT ab 99 333 60 _ ((ms I f O z u).row 2) dK dM ag wr s.x (dr rfl) (fun i bl=>xe _ _ 2 i (dr rfl) bl) (ch.Z s.y (av _)) (fun a e=>⟨by have:=bO a e;omega,by have:=bO a e;omega⟩) cj (by omega);have⟨ap,cm⟩:=eX ag.length;have⟨dQ,cU⟩:=eX aZ.length;rw[<-cm]at cl cS cT dP;rw[<-cU]at cg aV;have bb:=M.c.lt;have b9:=s.x.lt;have:(u:Int)<(k:Int):=by omega
   have bG:((O:Int)+(u:Int))=((O+u:Nat):Int):=by omega
   have:(d:Int)<dQ:=by omega
   have ad:=jR s aE bh ch bO cm cj ci;clear s ao ay bd bJ ce be cO cf dH bf bg aU ah a8 bN cR ch bO bh aE cm cU cj e1 bG
   gi_upto_region 28 with fail
   gi_wp2
   refine⟨trivial,?_⟩;refine((dh.2 cl).inRound l).m ?_;rintro e ay ⟨rfl,bG,bd⟩;dsimp only;clear cl cQ cg aX cS;have:=bd.size;have af:qU W1 ab (setRow (ms I f O z u) 2 (kg ((ms I f O z u).row 2) ag).1) A' k' f ay:=ad.a.qi b6 (bG.congr fun i _=>CS _ _ 2 (dr rfl) _ i) bd;have⟨be,bJ,cj,cl,bN⟩:=ad.d (by rw[iL,<-ad.f];exact cT);subst cj;have:=ad.e _ rfl;obtain⟨ah,aE⟩:∃ah,ag[ap-1]? =some ah:=⟨_,aI (by rw[<-ad.f];omega)⟩
   have aX:=(af.y.C (p:=⟨be,bJ+(ap-1),none⟩) cl).t (bN (ap-1) (by rw[iL,<-ad.f];omega));rw[ints_at _ _ _ aE]at aX;have cm:ah<f.length:=(Bj.1 (ad.c.2 ah (cB aE))).1;obtain⟨y,aU⟩:∃y,f[ah]? =some y:=⟨_,aI cm⟩
   have⟨bf,bO,cO,eh,ce⟩:=af.ev (by omega);subst cO;have cf:ay.cell? ⟨bf,bO+ah*7+3,none⟩=some (.int .u8 (Y y.ev.val)):=ce ah y aU 3 (dr rfl);have bg:=af.x.C 0 (dr rfl);rw[nV]at bg;have a8:qF f (oA (qv f O z u))=y.ev.val:=by
    unfold qF oA;rw[ad.b,<-ad.f,bj,aE];show(match f[ah]? with|some x=>x.ev.val|none=>0)=_;rw[aU]
   have cg:=af.x.lt;have bh:=af.x.C (327+u) (by omega);rw[L9]at bh;have cQ:IntKind.i64.wrap ((ap:Int)-1)=((ap-1:Nat):Int):=by rw[nk];omega
   have bH:((ap-1:Nat):Int)<(ap:Int):=by omega
   have ca:(0:Int)<=((ap-1:Nat):Int):=by omega
   have cb:¬((ap-1:Nat):Int)<0:=by omega
   have cR:(ah:Int)<(f.length:Int):=by omega
   have cS:(0:Int)<=(ah:Int):=by omega
   have cU:¬(ah:Int)<0:=by omega
   have dH:(u:Int)<6:=by omega
   have dR:(0:Int)<=(u:Int):=by omega
   have dS:¬(u:Int)<0:=by omega
   have ch:=aA af a8;clear bG bd af bN aE aU ce a8
   gi_wp2
   refine yh (by kernel_rfl) (by kernel_rfl) (fun h=>by obtain⟨_,_,h⟩:=h;exact h) ?_;refine Bo.AO (jY ay) (pW ay) (show Below _ _ _ from⟨rfl,rfl,rfl,av _,fun _ _=>rfl⟩) 15 (by kernel_rfl) ?_;simp only[st1]
   iterate 2(refine Bo.i rfl (fun W' w=>by simp[execOp,go_sem];rfl) ?_;simp only[o])
   refine Bo.i rfl (fun W' w=>by have c:=w.C (p:=ab) (by show ab<ay.1.size;omega);rw[bg]at c;simp[execOp,go_sem,c];rfl) ?_
   iterate 3(simp only[o];refine Bo.i rfl (fun W' w=>by simp[execOp,go_sem];rfl) ?_)
   simp only[o];refine Bo.i rfl (fun W' w=>by simp[execOp,go_sem,cQ];rfl) ?_;simp only[o];refine Bo.i rfl (fun W' w=>by simp[execOp,go_sem,bH,ca,cb];rfl) ?_;simp only[o];refine Bo.i rfl (fun W' w=>by have c:=w.C (p:=⟨be,bJ+(ap-1),none⟩) (by show be<ay.1.size;omega);rw[aX]at c;simp[execOp,go_sem,c];rfl) ?_;simp only[o];refine Bo.i rfl (fun W' w=>by simp[execOp,go_sem,cR,cS,cU];rfl) ?_;simp only[o];refine Bo.i rfl (fun W' w=>by simp[execOp,go_sem];rfl) ?_;simp only[o];refine Bo.i rfl (fun W' w=>by have c:=w.C (p:=⟨bf,bO+ah*7+3,none⟩) (by show bf<ay.1.size;omega);rw[cf]at c;simp[execOp,go_sem,c];rfl) ?_
   iterate 2(simp only[o];refine Bo.i rfl (fun W' w=>by simp[execOp,go_sem];rfl) ?_)
   simp only[o];refine Bo.i rfl (fun W' w=>by simp[execOp,go_sem,dH,dR,dS];rfl) ?_;simp only[o];refine Bo.oQ ?_;intro w9 ae cc;have ae:Below ay ay w9:=ae;have:=(ae.C (p:=⟨ab,327+u,none⟩) cg).t bh;have:w9.frozen? ⟨ab,327+u,none⟩=false:=(ch.a.x.Z ae cg).free _;have al:=H ae;clear ae cc bg aX cf bh
   go_wp2_with fail
   gi_wp2_with fail
   have⟨af,a8⟩:=ch.y;have bc:=af.Z al.y;refine⟨⟨u+1,by omega,by go_num,bc.qi b6 ?_ (mL _ _ _ _)⟩,by simp[intOf];omega⟩;rw[<-adi,a8,ad.b];exact(bc.x.set _ _).congr fun i _=>VO _ _ u _ i
  have cf:u=k:=by omega
  subst cf;have bZ:=s.y.size;have⟨_,ao,_,_,_⟩:=a5.y;have:=(s.y.C (p:=(W.1.size:Nat)) (by have:=b3.B.lt;exact this)).t b3.B.C;have:=s.x.lt;have⟨bd,bb⟩:=eX (Lr A':List Nat);have ae:∀q∈bd,W1.1.size<=q/\q<wr.1.size:=fun q an=>by
   rw[bb]at an;obtain⟨a,e,rfl⟩:=PQ.1 an;exact⟨(s.ab a e).1,(s.ab a e).2.1⟩
  have bG:∀a,A'=some a->a.block∈bd:=fun a e=>by rw[bb];exact PQ.2 ⟨a,e,rfl⟩
  have⟨aX,aE⟩:=eX (oE I f u z);have bN:ms I f O z u=aX:=by rw[aE,ao];rfl
  rw[bN]at s;have aa:=M.a;have cc:=P.b _ _ _ _ aa.j (.gz s.y);have bg:(aC.map fun z=>(⟨f,oE I f u z⟩:gO))++[⟨f,aX⟩]<+:rI I f u:=by
   have h:=M.b.map fun z=>(⟨f,oE I f u z⟩:gO)
   rw[kx,Ef,<-aE]at h;unfold rI;rw[<-E.c];exact h
  have⟨z,u⟩:=eX (xG aX (.slice A' f.length k'));have aC:=s.x;rw[<-u]at aC;have ce:Value.agg (J 333 fun i=>z i)= .agg (J 333 (xG aX (.slice A' f.length k'))):=by
   show Value.agg (J 333 z)=_;rw[u]
  have⟨fn,tmps,assign,body,aU,bh⟩:=P.c _ bw ⟨f,aX⟩ bd (.agg (J 333 fun i=>z i)) wr cc (by omega) bg ⟨A',k',ce,s.ev,bG⟩ (fun q an=>⟨by have:=(ae q an).1;omega,(ae q an).2,fun h=>by have:=(ae q an).1;have:=M.a.zH q h;omega⟩);have an:=dC aC s ae bg aE bZ;clear aC s ae bg aE bb bG bN cc aa ao ce u
  gi_wp2_with (first|(refine vT rfl 60 (.tmp 11) rfl ab 0 333 333 60 z rfl an.a (dr rfl) _ vM rfl pV (h:=?_);simp only[Act.put,lX,mm,lP,cK]))
  refine(tx.afq bh).m ?_;have aa:=M.a;have:=aa.size;rintro e W3 (⟨rfl,ao,aC,u⟩|⟨rfl,bb,ao,u⟩)
  .have al:=aA aC u;clear aC u bh aU aa;dsimp only
   gi_wp2_with fail
   have⟨_,s,ae,_,aE,_⟩:=an.y;refine⟨ao,M.a.next s.y al.B ae (by omega) (by rw[<-aE];exact al.a) (P.a _ _ _ al.a).zH,Pp s.y al.B ae (by omega)⟩
  have al:=aA bb u;clear bb u bh aU aa;dsimp only
  gi_wp2_with fail
  have⟨_,s,ae,_,aE,_⟩:=an.y;refine⟨ao,⟨rfl,M.b,?_⟩,Pp s.y al.B ae (by omega)⟩;rw[kx,Ef,<-aE];exact al.a
end
def kJ(C:List (List Ins))(Q:List UInt8):List (List Path):=C.map fun ins=>ru ins (cF Q)
def kV(a:List (List Path)):Nat->Nat
 |0=>1
 |k+1=>kV a k*(a.getD k []).length
def qR(a:List (List Path))(k:Nat):Bool:=(List.range k).all fun i=>decide ((a.getD i []).length<=4096)&&decide (kV a (i+1)<=4096)
def Lj(tp)(k):qR tp (k+1)=(qR tp k&&(decide ((tp.getD k []).length<=4096)&&decide (kV tp (k+1)<=4096))):=by unfold qR;rw[jh,Cn];simp
def qg(a:List (List Path))(b:List Nat)(k:Nat):List Path:=(List.range k).map fun i=>(a.getD i []).getD (b.getD i 0) jU
def pF(a:List (List Path))(b:List Nat):List Path:=qg a b a.length
def abA(tp)(ds)(k):qg tp ds (k+1)=qg tp ds k++[(tp.getD k []).getD (ds.getD k 0) jU]:=by unfold qg;rw[jh,kx];rfl
def E5(tp)(ds)(k):(qg tp ds k)=k:=by unfold qg;simp
def nc(a:List (List Path)):List (List Path):=(dL (a.map List.length)).map (pF a)
def l3(init:List UInt8)(a:List (List Path)):Bool:=qR a a.length&&(nc a).all fun ps=>decide (gR init ps ps.length<=48)
def OC{P:Program}(w)(t e)(cs)(a:TypeInfo)(z:Value)(c:P.underlying t=some (.slice e))(f:P.info? e=a)(g:a.zero=z)(b:a.size=cs.size)(i:0<cs.size)(l:cs.size<=2^24):
 (Instr.buildSlice t 1 #[(0,.agg cs)]).run P w= .ok (.slice w 1 1) (w.alloc (.cells cs e)):=by
 refine run_buildSlice w t e 1 _ cs a z c f g (by omega) (by omega) ?_;have h:=Great.fill_whole (s:=cs.size) i [Value.agg cs] ((Array.range (1*a.size)).map (z.cells[·%z.cells.size]!)) (fun v j=>by obtain rfl:=lh.1 j;rfl) (by simp[b]);rw[b]at h⊢;simpa[Value.cells]using h
def Kx{P:Program}{ops}{rest}{o}{a}{w}{Q}(c:o.guard=none)(t)(x)(f:o.op= .buildSlice t 1 #[(0,x)])
 (e)(cs)(b:TypeInfo)(z:Value)(g:a.eval x= .agg cs)(i:P.underlying t=some (.slice e))(j:P.info? e=b)(l:b.zero=z)(m:b.size=cs.size)(n:0<cs.size)(p:cs.size<=2^24)
 (h:wpList P ops Q rest (a.put o.dst (.slice w 1 1)) (w.alloc (.cells cs e))):wpList P ops Q (o::rest) a w:=by
 refine Ca c fun _ q=>?_;unfold Oper.wp execOp;simp only[f,xY,nR,pR,g,eD,OC w t e cs b z i j l m n p,eY,eZ];exact q _ _ h
def D7{F}{n0}{P:Program}{ops}{rest}{o}{a}{w}{Q}(c:∀f,F.fn f)(g:o.guard=none)(t)(x)(i:o.op= .buildSlice t 1 #[(0,x)])
 (e)(cs)(b:TypeInfo)(z:Value)(j:a.eval x= .agg cs)(l:P.underlying t=some (.slice e))(m:P.info? e=b)(n:b.zero=z)(p:b.size=cs.size)(q:0<cs.size)(r:cs.size<=2^24)
 (h:wpListIn F n0 P ops Q rest (a.put o.dst (.slice w 1 1)) (w.alloc (.cells cs e))):wpListIn F n0 P ops Q (o::rest) a w:=by
 refine xr g fun _ s=>?_;unfold Oper.wpIn;refine⟨fun _ _=>c _,?_⟩;rw[oG F _ _ (by grind)];unfold execOp;simp only[i,xY,nR,pR,j,eD,OC w t e cs b z l m n p q r,eY,eZ];exact s _ _ h
def mu(W:World)(lo b:Nat)(init:List UInt8)(N:Nat)(ps:List Path)(cs:List Value):Prop:=
 ∃A c R cr S e U cu,cs=(List.range 336).map (mG (fU init ps) (.slice A (bd init ps).length c) (.slice R (bu (bd init ps)).length cr) (.slice S (bF (bd init ps)).length e) (.slice U N cu))/\
  (∀a,A=some a->lo<=a.block/\a.block<b)/\eG W A (bd init ps)/\(∀a,R=some a->lo<=a.block/\a.block<b)/\fK W R (ints (bu (bd init ps)))/\kD W lo b S (bF (bd init ps))/\kD W lo b U (gg (bd init ps) N)
def mu.of{W}{lo}{init}{N}{ps}{cs}(h:F7 W lo init N ps cs):mu W lo W init N ps cs:=by
 obtain⟨A,f,R,cr,S,g,U,cu,i,o,r,u,w,y,C⟩:=h;exact⟨A,f,R,cr,S,g,U,cu,i,o,r,u,w,kD.of y,kD.of C⟩
def mu.same{W W':World}{lo hi}{init}{N}{ps}{cs}(h:mu W lo hi init N ps cs)(f:W.1.size<=W')(g:∀b,lo<=b->b<hi->W'.1[b]? =W.1[b]?):mu W' lo hi init N ps cs:=by
 obtain⟨A,r,R,cr,S,u,U,cu,w,i,y,o,C,E,F⟩:=h;exact⟨A,r,R,cr,S,u,U,cu,w,i,y.same f fun a e _=>g _ (i a e).1 (i a e).2,o,C.same f fun a e _=>g _ (o a e).1 (o a e).2,E.same f g,F.same f g⟩
def mu.hi{W}{lo hi}{init}{N}{ps}{cs}(h:mu W lo hi init N ps cs):hi<=W:=by
 obtain⟨A,g,R,cr,S,i,U,cu,o,r,u,w,y,f,C⟩:=h;exact f.1
section
def Ad(W:World)(b:Nat->Prop)(c:gO)(cs:List Value):Prop:=∃A k,cs=(List.range 333).map (xG c.x (.slice A c.F.length k))/\eG W A c.F/\∀a,A=some a->b a.block
structure wu(w:World)(base n0:Nat)(v0:Value)(flat0:List Value)(pre:List gO)(fp:List Nat)(W:World):Prop where
 ex:∃(v:Value)(news:List (List Value)),Boxed W w.1.size 45 v/\W.ownsRow base 60 333 v (n0+pre.length) (flat0++news.flatten)/\news.length=pre.length/\
  (∀(i:Nat)(c:gO)(cs:List Value),pre[i]? =some c->news[i]? =some cs->Ad W (fun b=>b∈fp/\v.ownBlock≠some b) c cs)/\∀b,v.ownBlock=some b->v0.ownBlock=some b\/b∈fp
 gr:w.grownBy W v0.ownBlock
 gF:∀q∈fp,w.1.size+1<=q/\q<W.1.size
def wu.steps{w}{base n0}{v0}{flat0}{pre}{fp}{W W'}{B}(h:wu w base n0 v0 flat0 pre fp W)(J:∀b,v0.ownBlock=some b->b<w.1.size)(f:w.1.size+1<=B)(f:Rg.Steps B fp W W'):wu w base n0 v0 flat0 pre fp W':=by
 have⟨v,u,o,y,C,E,F⟩:=h.ex;refine⟨⟨v,u,(f.block _ o.lt (.inl (by omega))).t o,dJ y fun b r g=>f.block b g ?_,C,fun i c cs k1 H=>?_,F⟩,?_,fun q r=>⟨(h.gF q r).1,aW (h.gF q r).2 f.size⟩⟩
 .grind
 .have⟨A,k,e1,e2,r⟩:=E i c cs k1 H;exact⟨A,k,e1,e2.same f.size fun a e g=>f.block _ g (.inr (r a e).1),r⟩
 exact⟨f.os.t h.gr.os,f.tape.t h.gr.tape,f.output.t h.gr.output,aO h.gr.size f.size,fun k g I=>(f.block k (aW g h.gr.size) (.inl (by omega))).t (h.gr.block k g I)⟩
def wu.next{w W w9}{base n0 M B}{v0 v' r}{flat0}{pre}{fp gl}{x}{A}{k}{E:List (List Value)}{o}(y:wu w base n0 v0 flat0 pre fp W)(ak:B=w.1.size+1)(aw:∀b,v0.ownBlock=some b->b<w.1.size)
 (H:Boxed W w.1.size 45 v')(R:W.ownsRow base 60 333 v' M (flat0++E.flatten))(al:M=n0+pre.length)(T:E.length=pre.length)(am:∀(i:Nat)(c:gO)(cs:List Value),pre[i]? =some c->E[i]? =some cs->Ad W (fun b=>b∈fp/\v'.ownBlock≠some b) c cs)(an:∀b,v'.ownBlock=some b->v0.ownBlock=some b\/b∈fp)
 (ao:eG W A x.F)(X:∀a,A=some a->a.block∈gl)(N:∀b∈gl,B+2<=b/\b<W.1.size/\b∉fp)
 (aa:w9.ownsRow base 60 333 r (M+1) ((flat0++E.flatten)++(List.range 333).map (xG x.x (.slice A x.F.length k))))(C:(W.alloc o).grownBy w9 v'.ownBlock)(ad:∀b,r.ownBlock=some b->v'.ownBlock=some b\/(W.alloc o).1.size<=b):
 ∃ae,wu w base n0 v0 flat0 (pre++[x]) ae (w9.setCell w.1.size r)/\tx.fh B fp gl ae W (w9.setCell w.1.size r):=by
 subst ak al;have:W.1.size<w9.1.size:=by have:=C.size;simp at this;omega
 have ap:(w9.setCell w.1.size r).1.size=w9.1.size:=by simp_all
 have:=y.gr.size;have P:∀q,q<W.1.size->v'.ownBlock≠some q->q≠w.1.size->(w9.setCell w.1.size r).1[q]? =W.1[q]?:=fun q f g Q=>(cP _ _ _ _ Q).t ((C.block q (by simp;omega) (fun e=>g e.s)).t (fF _ _ _ f));have:∀b,v'.ownBlock=some b->b<W.1.size:=fun b h=>(R.lt b h).2;have ar:v'.ownBlock≠some w.1.size:=fun e=>H.not_row (dr rfl) R e.s;have au:r.ownBlock≠some w.1.size:=fun e=>by
  obtain h|h:=ad _ e
  .grind
  simp at h;omega
 obtain⟨I,ax,ay⟩:∃I:List Nat,(∀b∈I,W.1.size<b/\b<w9.1.size)/\∀b,r.ownBlock=some b->v'.ownBlock=some b\/b∈I:=by
  cases af:r.ownBlock with
  |none=>exact⟨[],fun b h=>(by cases h),fun b h=>(by cases h)⟩
  |some ag=>
   obtain h|h:=ad ag af
   .exact⟨[],fun b h=>(by cases h),fun b g=>by grind⟩
   refine⟨[ag],fun b J=>?_,fun b g=>by grind⟩;obtain rfl:=lh.1 J;simp at h;exact⟨by omega,(aa.lt _ af).2⟩
 have ah:∀b,b<W.1.size->v'.ownBlock≠some b->r.ownBlock≠some b:=fun b f g Q=>by
  grind
 refine⟨fp++gl++I,⟨⟨r,E++[(List.range 333).map (xG x.x (.slice A x.F.length k))],?_,?_,by simp[T],fun i c cs f g=>?_,fun b J=>?_⟩,?_,fun q u=>?_⟩,⟨by omega,fun b J=>?_,fun b f g Q az=>?_⟩⟩
 .have f:Boxed w9 w.1.size 45 v':=(C.block _ (by have:=H.lt;simp;omega) (fun e=>ar e.s)).t ((fF _ _ _ H.lt).t H);exact f.set r
 .rw[dc,qz,Mh,JL,<-kZ];exact dJ aa fun b J L=>cP _ _ _ _ (fun e=>au (by grind))
 .rw[tm]at f g;by_cases hi:i<pre.length
  .rw[aq hi]at f;rw[aq (by omega)]at g;have⟨av,k1,e1,e2,F⟩:=am i c cs f g;refine⟨av,k1,e1,e2.same (by omega) fun a e L=>P _ L (F a e).2 (by have:=(y.gF _ (F a e).1).1;omega),fun a e=>⟨rP _ (rP _ (F a e).1),ah _ (y.gF _ (F a e).1).2 (F a e).2⟩⟩
  rw[O hi]at f;rw[O (by omega)]at g;have ai:i-pre.length=0:=by
   grind
  rw[ai]at f;rw[T,ai]at g;obtain rfl:=aR f;obtain rfl:=aR g;have aj:∀a,A=some a->v'.ownBlock≠some a.block:=fun a e h=>by
   grind
  refine⟨A,k,rfl,ao.same (by omega) fun a e L=>P _ L (aj a e) (by grind),fun a e=>⟨rP _ (AI _ (X a e)),ah _ (N _ (X a e)).2.1 (aj a e)⟩⟩
 .grind
 .have N:=y.gr;refine⟨C.os.t N.os,C.tape.t N.tape,C.output.t N.output,by omega,fun q f g=>?_⟩;refine(P q (by omega) (fun e=>?_) (by omega)).t (N.block q f g);obtain h|h:=an q e
  .grind
  have:=(y.gF q h).1;omega
 .rw[ap];obtain u|u:=mg.1 u
  .obtain u|u:=mg.1 u
   .have:=y.gF q u;omega
   grind
  grind
 .grind
 grind
def afd{A}{F}(W)(l)(o o')(n:W.1[l]? =some o)(p:o.isCells=false)(h:eG W A F):eG (W.putObj l o') A F:=by
 intro a;have⟨b,c,e,q,f⟩:=h a;exact⟨b,c,e,by simp_all,fun i x g j m=>iR (f i x g j m) (eC W l o') (fun r e=>by grind)⟩
def afL{c}{gl}{v}(W)(l)(o o')(a:W.1[l]? =some o)(b:o.isCells=false)(h:zY c gl v W):zY c gl v (W.putObj l o'):=by
 obtain⟨A,k,e,f,g⟩:=h;exact⟨A,k,e,afd W l o o' a b f,g⟩
def UG{c}{gl}{v}(W W')(a:Below W.1.size W W')(h:zY c gl v W):zY c gl v W':=by
 obtain⟨A,k,e,b,f⟩:=h;exact⟨A,k,e,b.Z a (av _),f⟩
def US(t0 t1 t2:Value)(v:Value)(b:Act)(W:World):Prop:=∃(q:Nat)(a:Nat->Value),v= .agg (J 333 a)/\(∀i,i<333->(a i).oneCell'=true)/\aj W q 60 333 a/\b={tmps:=#[t0,t1,t2,undef,nS,.pointer q,t1,v,undef,undef,undef,undef,undef],defers:=[]}
def Rz:(prog.info? 60).map (fun i=>(i.zero,i.size,i.bytes))=some (some (.agg (J 333 (iu 0))),333,2416):=by kernel_rfl
attribute [local go_sem] Oper.semAt_some
def aew(base n0)(v0)(flat0)(gf)(lb)(xs)(T)(w)(f:w.ownsRow base 60 333 v0 n0 flat0)(aI:base<=w.1.size)(aJ:n0+xs.length<=100000)
 (aw:∀args w,(callFunc gf args).run prog w= .ok (.enter gf args) w)(E:tx.mH Fence.wide 8 prog gf lb zY xs T w)
 (j:∀F W,w.grownBy W v0.ownBlock->(∀q∈F,q<W.1.size)->T F W):
 Calls prog 23 #[v0,.func (.func gf) #[] lb] w fun e X=>∃(y:Value)(O:List (List Value)),e= .returned y/\X.ownsRow base 60 333 y (n0+xs.length) (flat0++O.flatten)/\O.length=xs.length/\
  (∀(i:Nat)(c:gO)(cs:List Value),xs[i]? =some c->O[i]? =some cs->Ad X (fun b=>w.1.size<=b/\b<X.1.size/\y.ownBlock≠some b) c cs)/\(∀b,y.ownBlock=some b->v0.ownBlock=some b\/w.1.size<=b)/\w.grownBy X v0.ownBlock:=by
 have r:∀b,v0.ownBlock=some b->b<w.1.size:=fun b e=>(f.lt b e).2;have⟨af,ag,C⟩:=bo f (dr rfl);have s:Boxed (w.alloc (.cells #[v0] 45)) w.1.size 45 v0:=dE w _ _;have t:wu w base n0 v0 flat0 [] [] (w.alloc (.cells #[v0] 45)):=by
  refine⟨⟨v0,[],s,?_,rfl,fun i c cs h=>(by simp at h),fun b m=> .inl m⟩,?_,fun q g=>(by cases g)⟩
  .rw[iP,vY,List.flatten_nil,kL];exact f.alloc _
  exact⟨rfl,rfl,rfl,by simp,fun q g _=>fF _ _ _ g⟩
 have p:=dH E j t (by simp:(w.alloc (.cells #[v0] 45)).1.size=w.1.size+1) (show Below w.1.size w (w.alloc (.cells #[v0] 45))from ba w _) r f;clear f E j t s r;refine(dh (n:=9)).1 ?_;refine sZ func23 rfl trivial ?_ rfl;simp only[ntmps23,jC,gL,iP,Nat.reduceAdd,Nat.reduceSub,j8,j5,kh,kj,gG,iJ];rw[C]at p⊢
 gi_wp2_with fail
 have:=H C;generalize j:w.alloc (.cells #[.slice af n0 ag] 45)=W0 at p⊢;clear C j;refine np.bZ (n:=9) rfl (by omega) (gf:=gf) (lb:=lb) rfl trivial aw p.e (wu w base n0 (.slice af n0 ag) flat0) (fun _ _ _=>False) (fun N F W h=>p.b _ _ h.gr (fun q g=>(h.gF q g).2)) (fun c N W l r s _ _ _ t=>t.elim) [] (fun b m=>by cases m) p.c ?done ?stop p.a rfl (fun x z v W l r s I L g=>afL W l r s I L g) (fun N F W W' h j=>h.steps p.f (by have:=p.d;omega) j) (US (.slice af n0 ag) (.func (.func gf) #[] lb) (.pointer w.1.size)) ?assign ?hax (fun x z v W W' m h=>UG W W' m h) ?body
 case assign=>
  rintro l x z v W K ⟨A,k,rfl,P,aa⟩ ab;have⟨j,Q⟩:=eX (xG x.x (.slice A x.F.length k));have ah:∀i,(j i).oneCell'=true:=fun i=>by rw[Q];exact Gv _ rfl i
  rw[<-Q]at ab⊢;have:=FN;have ax:aj (W.alloc (.cells (J 333 (iu 0)) 60)) W.1.size 60 333 (iu 0):=aj.new _ _ _ _;clear Q
  gi_wp2_with (refine uL rfl 60 (.tmp 5) (.tmp 7) rfl W.1.size 0 333 333 60 (iu 0) j rfl rfl ax (dr rfl) pV (fun i _=>ah i) (h:=?_);intro ai Q R;have ad:=Q.congr (fun i ak=>by unfold bm;rw[aq ⟨by omega,by omega⟩,ez]);have ae:=fJ R;clear Q R;simp only[o])
  exact ab _ _ ae ⟨W.1.size,j,rfl,fun i _=>ah i,ad,rfl⟩
 case hax=>
  rintro v a W l r s ad ay ⟨q,j,I,L,g,t⟩;refine⟨q,j,I,L,(dX (fun e=>?_)).t g,t⟩;have an:=g;rw[e]at an;rw[an]at ad;cases ad;cases ay
 case stop=>
  grind
 case body=>
  rintro l N F x z v aK W g ai ⟨A,k,C,P,ae⟩ ⟨q,j,Q,ah,ak,rfl⟩ aL al aa;have⟨y,O,r,f,z,t,s⟩:=g.ex;have⟨aM,aN,az⟩:=bo f (dr rfl);subst az;have⟨ao,ap,ar,aA,aB⟩:=eQ Rz;have:N.length<xs.length:=by grind
  have aC:=r.C;have:=g.gr.size;have⟨M,R⟩:=eX (n0+N.length);have:M<100000:=by omega
  rw[<-R]at f aC r t s;have:(J 333 fun i=>j i).toList=(List.range 333).map j:=rfl;have aD:∀u∈(List.range 333).map j,u.oneCell'=true:=fun u aO=>by
   grind
  have N:=afn g r f z t s ak ai C P ae Q al aa R (r.not_row (dr rfl) f);clear g r f z t s ak ai C P ae Q al aa R
  gi_wp2_with (first|(refine vT rfl 60 (.tmp 5) rfl q 0 333 333 60 j rfl N.g (dr rfl) _ vM rfl pV (h:=?_);simp only[Act.put,lX,mm,lP,cK])|(refine D7 (fun _=>trivial) rfl 45 (.tmp 9) rfl 60 (J 333 fun i=>j i) ao _ rfl underlying45 ap ar (by simp_all) (by grind) (by simp_all) ?_;simp only[Act.put,lX,mm,lP,cK])|(gi_at_builtin;refine sX _ (fun _=>trivial) rfl _ _ 45 rfl base 60 ao _ 333 2416 underlying45 ap ar aA aB (dF _ _) (dr rfl) _ M _ rfl (N.c.alloc _) W.1.size 1 1 ((List.range 333).map j) rfl (by simp) (oy W _ _) aD (by unfold maxLen;omega) (by omega) (by simp;omega) ?_;intro aG w9 am au aE;have⟨aH,aP,aF⟩:=bo am (dr rfl);subst aF;have av:=(N.b.alloc (.cells (J 333 fun i=>j i) 60)).K au N.P;have:=av.C;have:=av.frozen;simp only[Act.put,lX,mm,lP,cK]))
  have⟨g,r,f,z,t,s,ak,ai,C,P,ae,Q,al,aa,R,aP⟩:=N.y;have av:(List.range 333).map j=(List.range 333).map (xG x.x (.slice A x.F.length k)):=by
   rw[C]at Q;injection Q with e;exact(cg Array.toList e).s
  rw[av]at am;have aF:=p.d;rw[aF];exact g.next rfl p.f r f R z t s P ae (fun b m=>by grind) am au aE
 rintro D F W aQ g aG ab;have⟨y,O,r,f,z,t,s⟩:=g.ex;have:=r.C;have:=p.d;have N:=dC g r f z t s;clear g r f z t s
 gi_wp2
 refine⟨by simp,.inl ⟨_,_,rfl,mj ab,?_⟩⟩;have⟨g,r,f,z,t,s⟩:=N.y;have au:∀b,b∈F->b≠D:=fun b m e=>aG (by grind);have aE:(W.putObj D (.deferred none)).1.size=W.1.size:=by simp_all
 have aH:∀b,y.ownBlock=some b->b≠D:=fun b m=>by
  obtain h|h:=s b m
  .have:=p.f b h;omega
  grind
 have am:∀b,b≠D->(W.putObj D (.deferred none)).1[b]? =W.1[b]?:=fun b h=>dX h;refine⟨y,?_,y,O,rfl,dJ f fun b m ad=>am b (aH b m),z,fun i c cs I L=>?_,fun b m=>?_,?_⟩
 .simp[results,results23,go_sem]
 .have⟨A,k,e1,e2,F⟩:=t i c cs I L;exact⟨A,k,e1,e2.same (by omega) fun a e ad=>am _ (au _ (F a e).1),fun a e=>⟨by have:=g.gF _ (F a e).1;omega,by rw[aE];exact(g.gF _ (F a e).1).2,(F a e).2⟩⟩
 .obtain h|h:=s b m
  .grind
  have:=(g.gF b h).1;omega
 have E:=g.gr;exact⟨E.os,E.tape,E.output,by grind,fun q I L=>(am q (by omega)).t (E.block q I L)⟩
end
def sS(W:World)(lo a:Nat)(v:Value)(ps:List Path):Prop:=
 a<=W.1.size/\∃c:List (List Value),c.length=ps.length/\W.ownsRow lo 135 12 v ps.length c.flatten/\(∀b,v.ownBlock=some b->b<a)/\∀(i:Nat)(p:Path)(cs:List Value),ps[i]? =some p->c[i]? =some cs->iH W lo p cs/\∀b,D1 cs b->b<a
def sS.of{W}{lo}{v}{ps}(h:sU W lo v ps):sS W lo W.1.size v ps:=by
 obtain⟨o,r,f,g⟩:=h;exact⟨av _,o,r,f,fun b u=>(f.lt b u).2,fun i p cs a b=>⟨g i p cs a b,fun q w=>((g i p cs a b).named w).2⟩⟩
def sS.same{W W'}{lo hi}{v}{ps}(h:sS W lo hi v ps)(w:W.1.size<=W'.1.size)(g:∀b,lo<=b->b<hi->W'.1[b]? =W.1[b]?):sS W' lo hi v ps:=by
 obtain⟨y,A,C,o,r,E⟩:=h;refine⟨aO y w,A,C,dJ o fun b f _=>g b (o.lt b f).1 (r b f),r,fun i p cs a b=>?_⟩;have⟨k1,u⟩:=E i p cs a b;exact⟨k1.same fun b f _=>g b (k1.named f).1 (u b f),u⟩
def sS.cells{W}{lo hi}{v}{ps}(h:sS W lo hi v ps){i}{q}(I:ps[i]? =some q):∃b c o r w y,v= .slice (b:Nat) ps.length c/\b<W.1.size/\W.rangeAt b (i*12) ((List.range 12).map (kF o r w y q.L))/\iH W lo q (mY o r w y q.L):=by
 obtain⟨_,F,A,f,af,J⟩:=h;have:i<ps.length:=(bL.1 I).1;obtain⟨cs,L⟩:∃cs,F[i]? =some cs:=⟨_,aI (by omega)⟩
 have⟨k1,_⟩:=J i q cs I L;obtain⟨o,r,w,y,e,M,N,O,P⟩:=k1;obtain⟨_,C⟩|⟨g,Q,ag,C,_⟩:=f.2
 .omega
 refine⟨g,Q,o,r,w,y,C,(f.lt g (by rw[C];rfl)).2,fun j u R=>?_,⟨o,r,w,y,rfl,M,N,O,P⟩⟩;have T:∀l:List (List Value),(∀c∈l,c.length=12)->∀(i:Nat)(cs:List Value)(j:Nat)(u:Value),l[i]? =some cs->cs[j]? =some u->l.flatten[i*12+j]? =some u:=by
  intro l
  induction l with
  |nil=>intro _ i cs j u h;simp at h
  |cons c l X=>
   intro H i cs j u A f;have E:=H c (by simp);have:j<12:=by
    cases i with
    |zero=>obtain rfl:=aR A;have:=(bL.1 f).1;omega
    |succ i=>have:=H cs (kU _ (cB A));have:=(bL.1 f).1;omega
   cases i with
   |zero=>
    obtain rfl:=aR A;rw[List.flatten_cons,Jt,cK,lE (by omega)];exact f
   |succ i=>
    rw[List.flatten_cons,kB (by omega),show(i+1)*12+j-c.length=i*12+j by omega];exact X (fun c E=>H c (kU _ E)) i cs j u A f
 have aa:∀c∈F,c.length=12:=fun c E=>by
  have⟨n,ah,ai⟩:=iD E;have ad:ps[n]? =some ps[n]:=aI (by omega);exact(J n _ c ad (by grind)).1.len
 have ae:cs[j]? =some u:=by rw[e,ES];exact R
 have:=f.cells (g:=g) (by rw[C];rfl) (i*12+j) u (T F aa i cs j u L ae);rw[eV,cK]at this;omega
def Ab(w:World)(g:Nat->Value)(p:a8):Prop:=∀a b n c,g 3= .slice (some ⟨a,b,none⟩) n c->∀(k:Nat)(ins:List Ins)(A:Option Addr)(e:Nat),p.h[k]? =some ins->w.cell? ⟨a,b+k,none⟩=some (.slice A ins.length e)->AX w A ins.length e
def AX.Z{w w'}{A}{n c}(h:AX w A n c)(f:Below w.1.size w w'):AX w' A n c:=fun W g=>h W (f.t (g.m f.size))
structure rV(w:World)(tp:List (List Path))(k:Nat)(v6 v7:Value)(S6:List Value)(W:World):Prop where
 y:Below w w W
 da:Boxed W (w.1.size+1) 88 nS
 ok:Boxed W (w.1.size+2) 4 (.bool false)
 box:Boxed W (w.1.size+3) 126 v6
 row:W.ownsRow w.1.size 127 1 v6 k S6
 ja:W.ownsRow w.1.size 3 1 v7 k (nums ((tp.take k).map List.length))
 each:∀(l:Nat)(ps:List Path),l<k->tp[l]? =some ps->∃u lo hi,S6[l]? =some u/\sS W lo hi u ps/\w.1.size+4<=lo/\(∀b,v6.ownBlock=some b->b<lo\/hi<=b)/\∀b,v7.ownBlock=some b->b<lo\/hi<=b
def Q4{W:World}{b1 b2 n m}{e t}{s1 s2}{u v}{xs ys}(h:W.ownsRow b1 e s1 u n xs)(k:W.ownsRow b2 t s2 v m ys)(i:e≠t):∀b,u.ownBlock=some b->v.ownBlock≠some b:=fun b c f=>by
 obtain⟨a,_⟩|⟨g,_,_,a,_,j,_⟩:=h.2
 .subst a;cases c
 subst a;have:=aR c;obtain⟨a,_⟩|⟨l,_,_,a,_,o,_⟩:=k.2
 .subst a;cases f
 subst a;have:=aR f
 grind
def rV.KE{w wr w3 w4}{tp}{k}{v6 v7 v6'}{S6}{o1}(h:rV w tp k v6 v7 S6 wr)(f:Below wr.1.size wr w3)(i:(w3.alloc o1).grownBy w4 v6.ownBlock):
 (w4.setCell (w.1.size+3:Nat) v6').ownsRow w.1.size 3 1 v7 k (nums ((tp.take k).map List.length)):=by
 have:=f.size;refine dJ h.ja fun b g o=>?_;have r:b≠w.1.size+3:=fun e=>h.box.not_row (dr rfl) h.ja (by rw[g,e]);exact(cP _ _ _ _ r).t ((i.block b (by simp;omega) (fun e=>(Q4 h.ja h.row (dr rfl) b g) e.s)).t ((fF _ _ _ (by omega)).t (f.block b o)))
def rV.next{w wr w3 w4 w5}{tp}{k}{ps}{v6 v7 v6' v7' u}{S6}{o1 o2}(h:rV w tp k v6 v7 S6 wr)(y:Below wr.1.size wr w3)(M:sU w3 wr.1.size u ps)(F:tp[k]? =some ps)
 (N:w4.ownsRow w.1.size 127 1 v6' (k+1) (S6++[u]))(E:(w3.alloc o1).grownBy w4 v6.ownBlock)(A:∀b,v6'.ownBlock=some b->v6.ownBlock=some b\/(w3.alloc o1).1.size<=b)
 (O:w5.ownsRow w.1.size 3 1 v7' (k+1) (nums ((tp.take k).map List.length)++[.int .i64 (ps.length:Nat)]))
 (C:((w4.setCell (w.1.size+3:Nat) v6').alloc o2).grownBy w5 v7.ownBlock)(H:∀b,v7'.ownBlock=some b->v7.ownBlock=some b\/((w4.setCell (w.1.size+3:Nat) v6').alloc o2).1.size<=b):
 rV w tp (k+1) v6' v7' (S6++[u]) w5:=by
 have P:=h.box.lt;have:=y.size;have:w3.1.size<w4.1.size:=by have:=E.size;simp at this;omega
 have o:(w4.setCell (w.1.size+3:Nat) v6').1.size=w4.1.size:=by simp_all
 have:w4.1.size<=w5.1.size:=by have:=C.size;simp only[cT,o]at this;omega
 have:=h.y.size;have t4:∀q,q<w3.1.size->v6.ownBlock≠some q->w4.1[q]? =w3.1[q]?:=fun q r i=>(E.block q (by simp;omega) (fun e=>i e.s)).t (fF _ _ _ r);have t5:∀q,q<w4.1.size->v7.ownBlock≠some q->q≠w.1.size+3->w5.1[q]? =w4.1[q]?:=fun q r i f=>(C.block q (by simp only[cT,o];omega) (fun e=>i e.s)).t ((fF _ _ _ (by omega)).t (cP _ _ _ _ f));have bx:∀(q:Nat)(t:TypeId)(v:Value),Boxed wr q t v->t≠127->t≠3->q≠w.1.size+3->Boxed w5 q t v:=fun q t v g Q R T=>
  (t5 q (by have:=g.lt;omega) (fun e=>g.not_row R h.ja e.s) T).t ((t4 q (by have:=g.lt;omega) (fun e=>g.not_row Q h.row e.s)).t ((y.block q g.lt).t g))
 have W:Boxed w4 (w.1.size+3) 126 v6:=(t4 _ (by omega) (fun e=>h.box.not_row (dr rfl) h.row e.s)).t ((y.block _ P).t h.box);have I:Below w.1.size w w4:=((h.y.t (y.m h.y.size)).alloc (by omega) o1).b E (by simp;omega) (fun b e=>(h.row.lt b e).1);have X:∀b,v6'.ownBlock=some b->v7.ownBlock≠some b:=fun b r i=>by
  obtain f|f:=A b r
  .exact Q4 h.row h.ja (dr rfl) b f i
  have:=(h.ja.lt b i).2;simp at f;omega
 have aa:v6'.ownBlock≠some (w.1.size+3):=fun e=>by
  obtain f|f:=A _ e
  .exact h.box.not_row (dr rfl) h.row f.s
  simp at f;omega
 have:S6.length=k:=by have:=h.row.1;omega
 refine⟨?_,bx _ _ _ h.da (dr rfl) (dr rfl) (by omega),bx _ _ _ h.ok (dr rfl) (dr rfl) (by omega),?_,?_,?_,fun l ad J L=>?_⟩
 .exact((I.setCell (p:=(w.1.size+3:Nat)) (by grind) _).alloc (by omega) o2).b C (by simp only[cT,o];have:=I.size;omega) (fun b e=>(h.ja.lt b e).1)
 .have ae:=W.set v6';exact(C.block _ (by simp only[cT,o];omega) (fun e=>h.box.not_row (dr rfl) h.ja e)).t ((fF _ _ _ (by omega)).t ae)
 .exact dJ N fun b g J=>t5 b J (X b g) (fun e=>aa (by grind))
 .rw[jd,F];show w5.ownsRow _ _ _ _ _ (nums (List.map List.length (_++[ps])));rw[kx,Ef,pG];exact O
 by_cases af:l<k
 .have⟨ag,lo,hi,e1,e2,ah,aj,ak⟩:=h.each l ad af L;have:=e2.1;refine⟨ag,lo,hi,by grind,e2.same (by omega) (fun b r i=>?_),ah,fun b g=>?_,fun b g=>?_⟩
  .rw[t5 b (by omega) (fun e=>by grind) (by omega),t4 b (by omega) (fun e=>by grind),y.block b (by omega)]
  .obtain f|f:=A b g
   .grind
   simp at f;omega
  obtain f|f:=H b g
  .grind
  simp only[cT,o]at f;omega
 have ai:l=k:=by omega
 subst ai;obtain rfl:=aR (F.s.t L);refine⟨u,wr.1.size,w3.1.size,by grind,(sS.of M).same (by omega) (fun b r i=>?_),by omega,fun b g=>?_,fun b g=>?_⟩
 .rw[t5 b (by omega) (fun e=>by have:=(h.ja.lt b e).2;omega) (by omega),t4 b (by omega) (fun e=>by have:=(h.row.lt b e).2;omega)]
 .obtain f|f:=A b g
  .have:=(h.row.lt b f).2;omega
  simp at f;omega
 obtain f|f:=H b g
 .have:=(h.ja.lt b f).2;omega
 simp only[cT,o]at f;omega
def Be{a:Type}{l:List a}{i}{x z:a}(h:l[i]? =some x):l.getD i z=x:=by grind
def Lo:∀ns,(dL ns).length=ns.foldr (·*·) 1
 |[]=>rfl
 |n::ns=>by
  unfold dL;rw[F2 (fun d=>(dL ns).map (d::·)) (ns.foldr (·*·) 1) (fun d=>by rw[cV,Lo ns])];rfl
def O5(tp):(dL (tp.map List.length)).length=kV tp tp.length:=by
 have c:∀(l:List Nat)(n:Nat),l.foldr (·*·) n=l.foldr (·*·) 1*n:=fun l n=>by
  induction l with
  |nil=>simp
  |cons a l b=>rw[List.foldr_cons,List.foldr_cons,b,K5]
 have h:∀k,k<=tp.length->kV tp k=((tp.take k).map List.length).foldr (·*·) 1:=fun k=>by
  induction k with
  |zero=>intro _;rfl
  |succ k b=>
   intro f;have e:tp[k]? =some tp[k]:=aI (by omega);rw[jd,e];show kV tp k*(tp.getD k []).length=_;rw[b (by omega),bj,e,kx,List.foldr_append,c _ (List.foldr _ 1 _)];simp
 rw[Lo,h _ (av _),nH]
def Lq{a:Type}(m):∀(l:List (List a)),(∀c∈l,c.length=m)->∀(i:Nat)(cs:List a)(j:Nat)(u:a),l[i]? =some cs->cs[j]? =some u->l.flatten[i*m+j]? =some u:=by
 intro l
 induction l with
 |nil=>intro _ i cs j u h;simp at h
 |cons c l b=>
  intro e i cs j u f g;cases i with
  |zero=>
   grind
  |succ i=>
   grind
def rV.Z{w W W'}{tp}{k}{v6 v7}{S6}(h:rV w tp k v6 v7 S6 W)(f:Below W.1.size W W'):rV w tp k v6 v7 S6 W':=by
 refine⟨h.y.t (f.m h.y.size),(f.block _ h.da.lt).t h.da,(f.block _ h.ok.lt).t h.ok,(f.block _ h.box.lt).t h.box,bP h.row f,bP h.ja f,fun l ps g i=>?_⟩;have⟨u,lo,hi,e1,e2,o⟩:=h.each l ps g i;exact⟨u,lo,hi,e1,e2.same f.size fun b _ h=>f.block b (by have:=e2.1;omega),o⟩
def iH.one{W}{b}{q}{cs}(h:iH W b q cs):∀u∈cs,u.oneCell'=true:=by
 obtain⟨y,A,C,E,e,f,g,o,r⟩:=h;subst e;rw[ES];intro u w;obtain⟨i,_,rfl⟩:=bX.1 w;obtain⟨_,_,rfl⟩:=bo f (dr rfl);obtain⟨_,_,rfl⟩:=bo g (dr rfl);obtain⟨_,_,rfl⟩:=bo o (dr rfl);obtain⟨_,_,rfl⟩:=bo r (dr rfl);exact L2 _ _ _ _ _ rfl rfl rfl rfl i
structure xt(wr W0:World)(ch:List Path)(v:Value)(W:World):Prop where
 y:Below W0 W0 W
 row:∃css:List (List Value),css.length=ch.length/\W.ownsRow W0.1.size 135 12 v ch.length css.flatten/\∀(i:Nat)(q:Path)(cs:List Value),ch[i]? =some q->css[i]? =some cs->iH wr 0 q cs
def xt.paths{wr W0 W}{ch}{v}(h:xt wr W0 ch v W)(u:Below wr.1.size wr W0):∃A c,v= .slice A ch.length c/\Aq W A ch:=by
 have⟨i,aa,f,w⟩:=h.row;have⟨A,c,o⟩:=bo f (dr rfl);refine⟨A,c,o,fun ad=>?_⟩;obtain⟨_,J⟩|⟨g,ae,af,J,_⟩:=f.2
 .omega
 have r:A=some g:=by grind
 have L:∀c∈i,c.length=12:=fun c M=>by
  have⟨n,ag,ah⟩:=iD M;have N:ch[n]? =some ch[n]:=aI (by omega);exact(w n _ c N (by grind)).len
 refine⟨g,0,r,(f.lt g (by rw[o,r];rfl)).2,fun k q y=>?_⟩;have:=(bL.1 y).1;obtain⟨cs,C⟩:∃cs,i[k]? =some cs:=⟨_,aI (by omega)⟩
 have⟨E,F,H,I,e,O,P,Q,R⟩:=(w k q cs y C).Z (u.t (h.y.m u.size));refine⟨E,F,H,I,fun j T=>?_,ft O (aQ _),ft P (aQ _),ft Q (aQ _),ft R (aQ _)⟩;have X:cs[j]? =some (kF E F H I q.L j):=by rw[e,ES];simp[T]
 have:=f.cells (g:=g) (by rw[o,r];rfl) (k*12+j) _ (Lq 12 i L k cs j _ C X);rw[eV]at this
 grind
def xt.next{wr W0 W W9}{ch}{v v9}{q}{cs}{n}{o}{f:List (List Value)}(g:Below W0.1.size W0 W)(h:n=ch.length)(r:f.length=ch.length)(u:W.ownsRow W0.1.size 135 12 v n f.flatten)(y:∀(i:Nat)(q:Path)(cs:List Value),ch[i]? =some q->f[i]? =some cs->iH wr 0 q cs)
 (A:iH wr 0 q cs)(C:W9.ownsRow W0.1.size 135 12 v9 (n+1) (f.flatten++cs))(w:(W.alloc o).grownBy W9 v.ownBlock):xt wr W0 (ch++[q]) v9 W9:=by
 subst h;refine⟨(g.alloc g.size o).b w (by have:=g.size;simp;omega) (fun b e=>(u.lt b e).1),f++[cs],by simp[r],?_,fun i x c E F=>?_⟩
 .grind
 grind
def agV{tp}{P:Path->Prop}{ds}(e:ds∈dL (tp.map List.length))(h:∀l∈tp,∀t∈l,P t):∀t∈pF tp ds,P t:=by
 intro t f;obtain⟨i,g,rfl⟩:=bX.1 f;have a:=fS.1 g;have⟨e1,e2⟩:=uM e;rw[cV]at e1;have b:ds[i]? =some ds[i]:=aI (by omega);have c:=e2 i _ tp[i].length b (by grind);rw[Be (aI a),Be b,Be (aI c)];exact h _ (oM a) _ (oM c)
def WD(pb)(g)(p)(PA)(pc)(ps)(w)(f:aj w pb 29 10 g)(j:eE w g p)(l:Aq w PA ps)(m:ps.length<=4)(c:CG p)(n:∀t∈ps,xo p.N t):
 Calls prog 56 #[.pointer pb,.slice PA ps.length pc] w fun e a=>∃(G:Nat->Value)(b:Bool),e= .returned (.tuple #[(J 336 G),b])/\(∀i,(G i).oneCell'=true)/\b=decide (gR p.init ps ps.length<=48)/\
  (b=true->F7 a w.1.size p.init p.N ps ((List.range 336).map G))/\Below w.1.size w a:=by
 refine(ae4 pb g p PA pc ps w f j l m c.init c.iG n).m ?_;rintro e a ⟨o,v,q⟩;by_cases h:gR p.init ps ps.length<=48
 .obtain⟨cs,rfl,A,r,R,cr,S,s,U,cu,rfl,u⟩:=o h;exact⟨_,true,rfl,Mg _ rfl rfl rfl rfl,(fB h).s,fun _=>⟨A,r,R,cr,S,s,U,cu,rfl,u⟩,q⟩
 grind
structure ul(wr:World)(p:a8)(tp:List (List Path))(VS:Value)(pre:List (List Nat))(fp:List Nat)(W:World):Prop where
 y:Below wr wr W
 yL:Boxed W (wr.1.size+1) 65 VS
 ex:∃(v:Value)(css:List (List Value)),Boxed W wr.1.size 88 v/\W.ownsRow wr.1.size 93 336 v pre.length css.flatten/\css.length=pre.length/\(∀b,v.ownBlock=some b->b∈fp)/\
  ∀(i:Nat)(ds:List Nat)(cs:List Value),pre[i]? =some ds->css[i]? =some cs->∃lo hi,wr.1.size<=lo/\mu W lo hi p.init p.N (pF tp ds) cs/\(∀q,lo<=q->q<hi->q∈fp)/\∀b,v.ownBlock=some b->b<lo\/hi<=b
 gF:∀q∈fp,wr.1.size+2<=q/\q<W.1.size
 small:∀ds∈pre,gR p.init (pF tp ds) (pF tp ds).length<=48
def ul.steps{wr W W'}{p}{tp}{VS}{pre}{fp}(h:ul wr p tp VS pre fp W)(f:Rg.Steps (wr.1.size+2) fp W W'):ul wr p tp VS pre fp W':=by
 have⟨v,u,g,w,y,o,A⟩:=h.ex;refine⟨Hb h.y (av _) (by omega) f,(f.block _ h.yL.lt (.inl (by omega))).t h.yL,⟨v,u,(f.block _ g.lt (.inl (by omega))).t g,dJ w fun b e r=>f.block b r (.inr (o b e)),y,o,fun i ds cs a b=>?_⟩,fun q r=>⟨(h.gF q r).1,aW (h.gF q r).2 f.size⟩,h.small⟩;have⟨lo,hi,e1,e2,r,C⟩:=A i ds cs a b;exact⟨lo,hi,e1,e2.same f.size fun b E F=>f.block b (by have:=e2.hi;omega) (.inr (r b E F)),r,C⟩
def ul.next{wr W r w9:World}{p:a8}{w:List (List Path)}{P v o:Value}{u:List (List Nat)}{y:List Nat}{ds:List Nat}{cs:List Value}{C:List (List Value)}{lo hi n:Nat}{J:Obj}(h:ul wr p w P u y W)(H:Below W W r)(ah:n=u.length)
 (L:Boxed W wr.1.size 88 v)(ai:W.ownsRow wr.1.size 93 336 v n C.flatten)(M:C.length=u.length)(Q:∀b,v.ownBlock=some b->b∈y)
 (aj:∀(i:Nat)(ds:List Nat)(cs:List Value),u[i]? =some ds->C[i]? =some cs->∃lo hi,wr.1.size<=lo/\mu W lo hi p.init p.N (pF w ds) cs/\(∀q,lo<=q->q<hi->q∈y)/\∀b,v.ownBlock=some b->b<lo\/hi<=b)
 (aA:W.1.size<=lo)(R:mu r lo hi p.init p.N (pF w ds) cs)(aB:gR p.init (pF w ds) (pF w ds).length<=48)
 (T:w9.ownsRow wr.1.size 93 336 o (n+1) (C.flatten++cs))(I:(r.alloc J).grownBy w9 v.ownBlock)(N:∀b,o.ownBlock=some b->v.ownBlock=some b\/(r.alloc J).1.size<=b):
 ∃X,ul wr p w P (u++[ds]) X (w9.setCell wr o)/\Rg.fh (wr.1.size+2) y X W (w9.setCell wr o):=by
 subst ah;have:=H.size;have:r.1.size<w9.1.size:=by have:=I.size;simp at this;omega
 have ak:(w9.setCell wr o).1.size=w9.1.size:=by simp_all
 have al:=h.y.size;have am:=L.lt;have an:v.ownBlock≠some wr.1.size:=fun e=>L.not_row (dr rfl) ai e.s;have:∀b,v.ownBlock=some b->wr.1.size+2<=b/\b<W.1.size:=fun b e=>h.gF b (Q b e);have ao:o.ownBlock≠some wr.1.size:=fun e=>by
  obtain h|h:=N _ e
  .grind
  simp at h;omega
 have aa:∀q,q<r.1.size->v.ownBlock≠some q->q≠wr.1.size->(w9.setCell wr o).1[q]? =r.1[q]?:=fun q f g E=>(cP _ _ _ _ E).t ((I.block q (by simp;omega) (fun e=>g e.s)).t (fF _ _ _ f));have st:∀q,q<W.1.size->v.ownBlock≠some q->q≠wr.1.size->(w9.setCell wr o).1[q]? =W.1[q]?:=fun q f g E=>(aa q (by omega) g E).t (H.block q f);have mem:∀q,W.1.size<=q->q<w9.1.size->q∈y++List.range' W.1.size (w9.1.size-W.1.size):=fun q f g=>AI _ (Cp.2 ⟨f,by omega⟩);refine⟨y++List.range' W.1.size (w9.1.size-W.1.size),⟨?_,?_,⟨o,C++[cs],?_,?_,by simp[M],fun b e=>?_,fun i x c f g=>?_⟩,fun q ap=>?_,fun x ar=>?_⟩,by omega,fun b au=>?_,fun b f g E=>st b g (fun e=>E (Q b e)) (by omega)⟩
 .refine((((h.y.t (H.m al)).alloc (by omega) J).b I (by simp;omega) (fun b e=>by grind))).setCell (p:=wr) (av _) _
 .exact(st _ h.yL.lt (fun e=>by grind) (by omega)).t h.yL
 .have f:Boxed w9 wr.1.size 88 v:=(I.block _ (by simp;omega) (fun e=>an e.s)).t ((fF _ _ _ (by omega)).t ((H.block _ am).t L));exact f.set o
 .rw[dc,qz,Mh,JL];exact dJ T fun b au M=>cP _ _ _ _ (fun e=>ao (by grind))
 .obtain h|h:=N b e
  .grind
  have:=(T.lt b e).2;simp at h
  grind
 .have ad:∀lo hi,(∀b,v.ownBlock=some b->b<lo\/hi<=b)->hi<=r.1.size->∀b,o.ownBlock=some b->b<lo\/hi<=b:=fun lo hi k1 aC b e=>by
   obtain h|h:=N b e
   .grind
   simp at h;omega
  rw[tm]at f g;by_cases ae:i<u.length
  .rw[aq ae]at f;rw[aq (by omega)]at g;have⟨aw,ax,e1,e2,af,ay⟩:=aj i x c f g;have ag:=e2.hi;exact⟨aw,ax,e1,e2.same (by omega) fun b A F=>st b (by omega) (fun e=>by grind) (by have:=h.gF b (af b A F);omega),fun q A F=>rP _ (af q A F),ad _ _ ay (by omega)⟩
  rw[O ae]at f;rw[O (by omega),M]at g;have az:i-u.length=0:=by
   grind
  rw[az]at f g;obtain rfl:=aR f;obtain rfl:=aR g;have ag:=R.hi;refine⟨lo,hi,by omega,R.same (by omega) fun b A F=>aa b (by omega) (fun e=>by grind) (by omega),fun q A F=>mem q (by omega) (by omega),ad _ _ (fun b e=>by grind) ag⟩
 .rw[ak];obtain A|A:=mg.1 ap
  .have:=h.gF q A;omega
  have:=Cp.1 A;have:=h.yL.lt;omega
 .obtain A|A:=mg.1 ar
  .exact h.small x A
  grind
 grind
section
def Z2:(prog.info? 127).map (fun i=>(i.zero,i.size,i.bytes))=some (some nS,1,24):=by kernel_rfl
def UW:(prog.info? 93).map (fun i=>(i.zero,i.size,i.bytes))=some (some (.agg (J 336 (mG (jg 0) nS nS nS nS))),336,2488):=by kernel_rfl
def IJ{tp}{k}(h:qR tp k=true):kV tp k<=4096:=by
 cases k with
 |zero=>unfold kV;omega
 |succ k=>
  rw[Lj]at h
  grind
def P0{tp}{k n}(h:qR tp k=false)(b:k<=n):qR tp n=false:=by
 induction n with
 |zero=>rwa[show k=0 by omega]at h
 |succ n a=>
  by_cases k=n+1
  .grind
  rw[Lj,a (by omega),Bc]
def M4(p:a8)(a:List (List Path))(w:World)(e:Ending)(c:World):Prop:=
 ∃(v:Value)(f:Bool),e= .returned (.tuple #[v,.bool f])/\f=l3 p.init a/\Below w w c/\(f=true->∃g:List (List Value),g.length=(nc a).length/\c.ownsRow w.1.size 93 336 v (nc a).length g.flatten/\
  ∀(i:Nat)(ps:List Path)(cs:List Value),(nc a)[i]? =some ps->g[i]? =some cs->∃lo h,w.1.size<=lo/\mu c lo h p.init p.N ps cs/\∀b,v.ownBlock=some b->b<lo\/h<=b)
def OT{w W:World}{p}{tp}{fn}{tmps}(a:fn.results=#[.cell 4 88,.cell 5 4])(b:tmps.getD 4 undef= .pointer (w+1:Nat))(c:tmps.getD 5 undef= .pointer (w+1+1:Nat))
 (f:Below w w W)(g:Boxed W (w+1) 88 nS)(i:Boxed W (w+1+1) 4 (.bool false))(h:l3 p.init tp=false):
 ∃v,(results fn tmps).run prog ((W.setCell (w+1:Nat) nS).setCell (w+1+1:Nat) (.bool false))= .ok v ((W.setCell (w+1:Nat) nS).setCell (w+1+1:Nat) (.bool false))/\M4 p tp w (.returned v) ((W.setCell (w+1:Nat) nS).setCell (w+1+1:Nat) (.bool false)):=
 ⟨_,yt a (fun _=>by kernel_rfl) (fun _=>by kernel_rfl) _ _ (w+1) (w+1+1) _ _ b c ((g.set _).other (by omega) _).C ((i.other (by omega) _).set _).C,
   _,_,rfl,h.s,(f.setCell (p:=(w+1:Nat)) (by grind) _).setCell (p:=(w+1+1:Nat)) (by grind) _,fun e=>by cases e⟩
def FO(w:World)(p:a8)(a:List (List Path))(c:Code)(W:World):Prop:=c= .ret/\Boxed W (w.1.size+1) 88 nS/\Boxed W (w.1.size+2) 4 (.bool false)/\Below w w W/\l3 p.init a=false
def FO.put{w}{p}{tp}{l:Nat}{c}{W}{o'}(h:FO w p tp c W)(f:w+3<=l):FO w p tp c (W.putObj l o'):=
 ⟨h.1,(dX (by omega)).t h.2.1,(dX (by omega)).t h.2.2.1,h.2.2.2.1.b (eC W l o') h.2.2.2.1.size (fun k e=>by grind),h.2.2.2.2⟩
attribute [local go_sem] Oper.semAt_some
def YM(ae:Nat)(g:Nat->Value)(p:a8)(be:Addr)(Q:List UInt8)(bz:Nat)(w:World)(I:aj w ae 29 10 g)(C:eE w g p)(E:CG p)(aH:pK w (some be) Q)(aN:Q.length<=1000)(N:Q≠[])(P:Ab w g p)(R:bh w)
 (T:∀ins∈p.h,∀t∈ru ins (cF Q),xo p.N t):
 Calls prog 21 #[.pointer ae,.slice (some be) Q.length bz] w (M4 p (kJ p.h Q) w):=by
 have⟨c8,cd,F,X⟩:=C.h;have f:=I.C 3 (dr rfl);rw[F]at f;have bF:=I.lt;have⟨m,s⟩:=eX (kJ p.h Q);have aa:m.length=p.h.length:=by rw[s];unfold kJ;exact cV _
 have⟨aJ,z⟩:=eX p.h.length;have:aJ<=3:=by rw[z];exact E.h
 rw[<-s];rw[<-z]at f;have⟨ce,aK,cf,cg,ch⟩:=eQ Z2;have⟨ci,bG,cj,cl,cm⟩:=eQ Bn;have y:=J0 I C E aH P R T X s aa z F N;clear I C E aH P R T X s aa z F N;refine(dh (n:=9)).1 ?_;refine sZ func21 rfl trivial ?_ rfl;simp only[ntmps21,jC,gL,iP,Nat.reduceAdd,Nat.reduceSub,j8,j5,kh,kj,gG,iJ]
 gi_upto_region 4 with fail
 have C:∀aB,aB=(((w.alloc (.cells #[.pointer ae] 83)).alloc (.cells #[nS] 88)).alloc (.cells #[.bool false] 4)).alloc (.cells #[nS] 126)->
  rV w m 0 nS nS [] aB/\Boxed aB w.1.size 83 (.pointer ae)/\aB.1.size=w.1.size+4:=by
  rintro aB rfl;have bH:=dE (w.alloc (.cells #[.pointer ae] 83)) 88 nS;have bI:=dE ((w.alloc (.cells #[.pointer ae] 83)).alloc (.cells #[nS] 88)) 4 (.bool false);have bJ:=dE (((w.alloc (.cells #[.pointer ae] 83)).alloc (.cells #[nS] 88)).alloc (.cells #[.bool false] 4)) 126 nS;simp only[cT,mq,Nat.reduceAdd]at bH bI bJ;exact⟨⟨(((ba w _).alloc (by simp) _).alloc (by simp;omega) _).alloc (by simp;omega) _,(bH.alloc _).alloc _,bI.alloc _,bJ,gI _ _ _ _,gI _ _ _ _,fun l ps R=>absurd R (jD _)⟩,(((dE w _ _).alloc _).alloc _).alloc _,by simp⟩
 generalize E:(((w.alloc (.cells #[.pointer ae] 83)).alloc (.cells #[nS] 88)).alloc (.cells #[.bool false] 4)).alloc (.cells #[nS] 126)=aB;have⟨s,z,F⟩:=C aB E.s;clear C E;have:=z.C;have:=(s.y.C (p:=⟨ae,3,none⟩) bF).t f;have bK:=aD s z F;clear s z F f
 gi_wp2
 gi_loopw [7,8,25] (fun v n i wr=>∃(k:Nat)(E:Value)(ak:List Value),k<=aJ/\i= .int .i64 k/\n= .int .i64 (kV m k)/\qR m k=true/\rV w m k E v ak wr/\Boxed wr w.1.size 83 (.pointer ae)) (fun _ _ i _=>aJ-(intOf i).toNat)
 case atStart=>exact⟨0,_,_,aQ _,rfl,rfl,rfl,bK.a,bK.b⟩
 obtain⟨k,E,ak,c9,rfl,rfl,P,s,aL⟩:=hrel;have:=s.y.size;have bL:=IJ P;by_cases aC:k<aJ
 .have⟨bM,bN,cn,cp,aa⟩:=y.h (by rw[<-y.k];omega);subst cn;obtain⟨ins,C⟩:∃ins,p.h[k]? =some ins:=⟨_,aI (by rw[<-y.k];exact aC)⟩
  have⟨A,bf,N,ab,ad⟩:=aa k ins C;have:=(s.y.C (p:=⟨bM,bN+k,none⟩) cp).t N;have af:=y.c.code ins (cB C);have ag:=(y.e bM bN _ cd (by rw[y.l]) k ins A bf C N)
  have z:=s.y;have ah:AX wr A ins.length bf:=fun W cq=>ag W (z.t (cq.m z.size));have F:=YT ins Q A be bf bz wr af aN y.M (ab.Z z (av _)) (y.d.Z z (av _)) (fun a e f=>by have:=ad a e f;omega) (y.f.Z z y.f.lt) ah;have ai:m[k]? =some (ru ins (cF Q)):=by
   rw[y.i];unfold kJ;rw[dG,C];rfl
  have da:(k:Int)<aJ:=by omega
  have⟨L,T⟩:=eX (dA ins (cF Q)).length;rw[<-T]at F;have⟨bO,X⟩:=eX (if L<=4096 then 0 else 5:Int);rw[<-X]at F;have f:=dC s aL P ai T X;clear s aL P aa C N ab ad af ag ah z ai T X
  gi_wp2_with fail
  first|refine⟨trivial,fun h=>(by cases h),?_⟩|refine⟨trivial,?_⟩
  refine(dh.2 F).m ?_;rintro e N ⟨v,rfl,aa,am,T⟩;clear F;have:=T.size;have F:(ru ins (cF Q)).length=L:=by rw[Jp,f.e]
  have⟨ps,ad⟩:=eX (ru ins (cF Q));rw[<-ad]at aa F;have ai:m[k]? =some ps:=by rw[ad];exact f.d
  have ag:m.getD k []=ps:=by rw[bj,ai];rfl
  have X:kV m (k+1)=kV m k*ps.length:=by show kV m k*(m.getD k []).length=_;rw[ag]
  have ab:qR m (k+1)=(decide (L<=4096)&&decide (kV m (k+1)<=4096)):=by
   rw[Lj,f.c,kQ,ag,F]
  by_cases aE:L<=4096
  .have⟨aS,af,ap,_⟩:=aa aE;have⟨a3,a4,cr⟩:=bo ap (dr rfl);subst cr;rw[F]at X;have⟨ay,ah⟩:=eX (kV m k*L);have:ay<=4096*4096:=by rw[ah];exact J8 bL aE
   rw[<-ah]at X;have ct:IntKind.i64.wrap ((kV m k:Int)*(L:Int))=(ay:Int):=by
    rw[show((kV m k:Int)*(L:Int))=(ay:Int) by rw[ah];simp];rw[nk];omega
   have bg:bO=0:=by rw[f.F,aq aE]
   subst bg;have ao:=aa aE;rw[F]at ao⊢;have⟨cu,ar⟩:=eX (kV m k);rw[<-ar]at ct bL⊢;by_cases cv:ay<=4096
   .have d1:¬(4096:Int)<(ay:Int):=by omega
    have d2:decide ((4096:Int)<(ay:Int))=false:=gX d1;have al:=bP f.a.row T;have C:Boxed N (w.1.size+3) 126 E:=(T.block _ f.a.box.lt).t f.a.box;have bQ:=C.C;have aT:=H F;have z:=jR T ao ai ab X al C (C.not_row (dr rfl) al);clear T ao ai ab X al C aa am ap ag ad af ah ar F
    gi_wp2_with (first|(gi_at_builtin;refine sX _ (fun _=>trivial) rfl _ _ 126 rfl w.1.size 127 ce _ 1 24 underlying126 aK cf cg ch rfl (dr rfl) E k _ rfl (z.f.alloc _) N 1 1 [.slice a3 L a4] rfl rfl (kN _ _ _) (by simp[Value.oneCell']) (by unfold maxLen;omega) (by omega) (by simp;omega) ?_;intro bS w9 aF al a5;have⟨a6,a7,aU⟩:=bo aF (dr rfl);subst aU;have aV:=(z.g.alloc (.cells #[.slice a3 L a4] 127)).K al z.H;have an:=aV.C;have f9:=aV.frozen;have C:=f.a.KE (v6':= .slice a6 (k+1) a7) z.a al;have:N.1.size<=w9.1.size:=by have:=al.size;simp at this;omega)|(gi_at_builtin;refine sX _ (fun _=>trivial) rfl _ _ 65 rfl w.1.size 3 ci _ 1 8 underlying65 bG cj cl cm rfl (dr rfl) _ k _ rfl (C.alloc _) w9 1 1 [.int .i64 (L:Int)] rfl rfl (PX _ _ _ _ (by simp[World.setCell])) (by simp[Value.oneCell']) (by unfold maxLen;omega) (by omega) (by simp[World.setCell];omega) ?_;intro az aA aw au ax))
    refine⟨⟨k+1,.slice a6 (k+1) a7,ak++[.slice a3 L a4],by omega,by go_num,by rw[z.e],by rw[z.d,z.e];simp[aE,cv],?_,?_⟩,by simp[intOf];omega⟩
    .exact f.a.next z.a z.b z.c aF al a5 (by rw[aT.y];exact aw) au ax
    have bT:=f.b;have an:Boxed N w.1.size 83 (.pointer ae):=(z.a.block _ bT.lt).t bT;have cw:=(an.alloc (.cells #[.slice a3 L a4] 127)).K al (an.not_row (dr rfl) z.f);have bU:=cw.other (show w.1.size≠w.1.size+1+1+1 by omega) (.slice a6 (k+1) a7);exact(bU.alloc _).K au (bU.not_row (dr rfl) C)
   have d1:(4096:Int)<(ay:Int):=by omega
   have:decide ((4096:Int)<(ay:Int))=true:=fB d1;have C:Boxed N (w.1.size+1) 88 nS:=(T.block _ f.a.da.lt).t f.a.da;have E:Boxed N (w.1.size+1+1) 4 (.bool false):=(T.block _ f.a.ok.lt).t f.a.ok;have cx:=C.C;have cy:=E.C;have db:=C.frozen;have dd:=E.frozen;have ak:l3 p.init m=false:=by
    unfold l3;rw[P0 (k:=k+1) (by rw[ab,X];simp;omega) (by rw[y.j,<-y.k];omega),Bc]
   have z:=aY T C E ak;clear T C E ak ao ai ab X aa am ap ag ad af ah ar F
   gi_wp2
   exact OT rfl rfl rfl (f.a.y.t (z.a.m f.a.y.size)) z.b z.c z.D
  obtain rfl:=am (by omega);have bg:bO=5:=by rw[f.F,O aE]
  subst bg;have C:Boxed N (w.1.size+1) 88 nS:=(T.block _ f.a.da.lt).t f.a.da;have E:Boxed N (w.1.size+1+1) 4 (.bool false):=(T.block _ f.a.ok.lt).t f.a.ok;have cx:=C.C;have cy:=E.C;have:=C.frozen;have:=E.frozen;have ak:l3 p.init m=false:=by
   unfold l3;rw[P0 (k:=k+1) (by rw[ab];simp[aE]) (by rw[y.j,<-y.k];omega),Bc]
  have z:=aY T C E ak;clear T C E ak ai ab X aa am ag ad F;generalize kV m k=cu at*
  gi_wp2
  exact OT rfl rfl rfl (f.a.y.t (z.a.m f.a.y.size)) z.b z.c z.D
 obtain rfl:k=aJ:=by omega
 have⟨X,cz⟩:=eX wr;subst cz;have:¬(k:Int)<k:=by omega
 have⟨ar,au,cA⟩:=bo s.ja (dr rfl);subst cA;have F:m.length=k:=by rw[y.j,<-y.k]
 have⟨ns,aa⟩:=eX (m.map List.length);have ab:X.ownsRow w.1.size 3 1 (.slice ar k au) k (nums ns):=by
  have:=s.ja;rw[<-F,nH,<-aa]at this;rwa[F]at this
 have cC:ns.length=k:=by rw[aa,cV,F]
 have ad:∀n∈ns,n<=100000000:=by
  intro n bV;rw[aa]at bV;obtain⟨l,R,rfl⟩:=bX.1 bV;have⟨i,aK,cD⟩:=iD R;unfold qR at P;have:=mw.1 P i (fS.2 (by omega));simp only[cH,lD]at this;have e:m.getD i []=l:=by rw[bj,aI aK,cD];rfl
  rw[e]at this;omega
 have f:=jR s aL P F ab cC ad aa;clear s aL P F ab ad aa aC
 gi_wp2
 refine⟨trivial,?_⟩;refine(dh.2 (SL ar k au _)).st fun a9 F=>?_;have P:ul X p m (.slice ar k au) [] [] a9/\a9.1.size=X.1.size+2/\Below X X a9:=by
  rw[F];have bY:=(ba X (.cells #[nS] 88)).alloc (by simp) (.cells #[.slice ar k au] 65);have bZ:=dE (X.alloc (.cells #[nS] 88)) 65 (.slice ar k au);rw[cT]at bZ;exact⟨⟨bY,bZ,⟨_,[],(dE X _ _).alloc _,gI _ _ _ _,rfl,fun b e=>(by cases e),fun i aa cs e=>(by cases e)⟩,fun q ag=>(by cases ag),fun d az=>(by cases az)⟩,by simp,bY⟩
 have aw:=H P;have⟨B,s⟩:=eX X.1.size;clear P F;simp only[cT,<-s];have am:=H s;clear s
 gi_wp2_with fail
 have bi:∀ak ah W,ul X p m (.slice ar k au) ah ak W->Iq ar au (B+1) ns ak W:=fun ak ah W h=>by
  refine⟨?_,?_,fun q ag=>(h.gF q ag).2⟩
  .have⟨A,c,e,_,_,aK⟩:=tI (bP f.e h.y);injection e with e1 _ _;rw[e1];exact aK
  rw[f.f,am.y];exact h.yL
 refine np.one (n:=9) rfl (by omega) (gf:=98) (lb:=#[.pointer (B+1:Nat)]) rfl trivial (gH func98 (by kernel_rfl) rfl) (aP _ _) (fun ah ak W=>ul X p m (.slice ar k au) ah ak W) (fun c ah W=>FO w p m c W) (fun ah ak W h=>bi _ _ _ h) (fun c ah W l s F ab _ _ P=>P.put (by have:=aw.b;have:=f.a.y.size;have:=f.a.box.lt;omega)) [] (fun b bl=>by cases bl) aw.a ?done ?stop (Nb ns ar au (B+1) a9 (by have:=f.f;omega) f.g (bi _ _ _ aw.a).1 (bi _ _ _ aw.a).2.1 8) rfl (fun x v W l s F ab aA aM=>Ra W l s F ab aA aM) (fun ah ak W W' h s=>h.steps (by rw[aw.b]at s;exact s)) ?aO ?assign ?body
 case assign=>
  intro l v W K aG
  gi_wp2
  exact aG
 case stop=>
  rintro D c ah W aH aR ⟨rfl,F,P,an,ad⟩ aG;have s:=aY F P an ad;clear F P an ad
  gi_wp2
  have cE:=s.a.C;have C:=s.b.C;have cG:w.1.size<=D:=by have:=aw.b;have:=f.a.y.size;omega
  refine⟨by simp,.inl ⟨_,_,rfl,mj aG,?_⟩⟩;refine⟨_,yt rfl (fun _=>by kernel_rfl) (fun _=>by kernel_rfl) _ _ (w.1.size+1) (w.1.size+2) _ _ rfl rfl (iR cE (eC _ D (.deferred none)) (fun r e=>by cases e;exact⟨_,aG,rfl⟩)) (iR C (eC _ D (.deferred none)) (fun r e=>by cases e;exact⟨_,aG,rfl⟩)),?_⟩;exact⟨_,_,rfl,s.D.s,s.c.b (eC W D _) s.c.size (fun k e=>by cases e;exact cG),fun e=>by cases e⟩
 case done=>
  rintro D ak W aH ad bb aG;have⟨v,aS,F,P,R,an,ax⟩:=ad.ex;have⟨aW,aX,cI⟩:=bo P (dr rfl);subst cI;have⟨M,ao⟩:=eX (dL ns).length;rw[<-ao]at F P R an ax;have cJ:=F.C;have ap:=f.a.Z ad.y;rw[<-am.y]at cJ;have C:=ap.da;have E:Boxed W (w.1.size+1+1) 4 (.bool false):=ap.ok;have:=C.C;have:=E.C;have:=C.frozen;have:=E.frozen;have bn:B+2<=D:=by rw[am.y,<-aw.b];exact aH
  have cL:=Cc ad F P R an ax bb C E ap bn ao;clear ad F P R an ax bb C E ap ao aH bn
  gi_wp2_with fail
  have⟨ad,F,P,R,an,ax,bb,C,E,ap,bn,ao⟩:=cL.y;have de:w.1.size+3<B:=by have:=f.a.box.lt;rw[am.y];exact this
  have bp:((W.setCell (w.1.size+1:Nat) (.slice aW M aX)).setCell (w.1.size+1+1:Nat) (.bool true)).1[D]? =some (.deferred (some [])):=(cP _ _ _ _ (by show D≠w.1.size+1+1;omega)).t ((cP _ _ _ _ (by show D≠w.1.size+1;omega)).t aG);refine⟨by simp,.inl ⟨_,_,rfl,mj bp,?_⟩⟩;have cM:=((C.set (.slice aW M aX)).other (B':=w.1.size+1+1) (by omega) (.bool true)).C;have cO:=((E.other (B':=w.1.size+1) (by omega) (.slice aW M aX)).set (.bool true)).C;have⟨bq,bc⟩:=eX (((W.setCell (w.1.size+1:Nat) (.slice aW M aX)).setCell (w.1.size+1+1:Nat) (.bool true)).putObj D (.deferred none));have cQ:bq.1.size=W.1.size:=by rw[bc];simp[World.putObj,World.setCell]
  have b0:∀q,q≠D->q≠w.1.size+1->q≠w.1.size+1+1->bq.1[q]? =W.1[q]?:=fun q ab aA aM=>by rw[bc];exact(dX ab).t ((cP _ _ _ _ aM).t (cP _ _ _ _ aA))
  have a2:Below w.1.size w bq:=by
   have ab:=((f.a.y.t (ad.y.m f.a.y.size)).setCell (p:=(w.1.size+1:Nat)) (by show w.1.size<=w.1.size+1;omega) (.slice aW M aX)).setCell (p:=(w.1.size+1+1:Nat)) (by show w.1.size<=w.1.size+1+1;omega) (.bool true);rw[bc];exact ab.b (eC _ D _) ab.size (fun k e=>by cases e;omega)
  refine⟨_,yt rfl (fun _=>by kernel_rfl) (fun _=>by kernel_rfl) _ _ (w.1.size+1) (w.1.size+1+1) _ _ rfl rfl (iR cM (eC _ D (.deferred none)) (fun r e=>by cases e;exact⟨_,bp,rfl⟩)) (iR cO (eC _ D (.deferred none)) (fun r e=>by cases e;exact⟨_,bp,rfl⟩)),?_⟩;rw[<-bc];have af:(nc m).length=M:=by unfold nc;rw[cV,ao,f.H]
  have aM:∀q,q∈ak->q≠D/\q≠w.1.size+1/\q≠w.1.size+1+1:=fun q ag=>by
   have:=ad.gF q ag;rw[<-am.y]at this;exact⟨fun e=>bb (by rw[<-e];exact ag),by omega,by omega⟩
  refine⟨_,_,rfl,?_,a2,fun _=>⟨aS,by rw[af];exact R,?_,fun i ps cs ab aA=>?_⟩⟩
  .unfold l3;rw[f.d,f.c,kQ];refine(mw.2 fun ps ai=>?_).s;unfold nc at ai;obtain⟨aa,br,rfl⟩:=bX.1 ai;exact fB (ad.small aa (by rw[f.H];exact br))
  .rw[af];exact dJ (ft P (by rw[<-am.y];omega)) fun b e _=>(b0 b (aM b (an b e)).1 (aM b (an b e)).2.1 (aM b (an b e)).2.2)
  unfold nc at ab;rw[<-f.H,dG]at ab;obtain⟨aa,br,rfl⟩:=Iw.1 ab;have⟨lo,b1,e1,e2,aZ,cR⟩:=ax i aa cs br aA;exact⟨lo,b1,by rw[<-am.y]at e1;omega,e2.same (by rw[cQ];exact av _) fun b aO aH=>b0 b (aM b (aZ b aO aH)).1 (aM b (aZ b aO aH)).2.1 (aM b (aZ b aO aH)).2.2,cR⟩
 case body=>
  rintro l ah ak aa v W ad aR ⟨cS,rfl,aH⟩ df an;have aO:aa∈dL ns:=by
   obtain⟨t,bs⟩:=aR;rw[<-bs];simp
  have bd:ah.length<=4096:=by
   have ab:=aR.length_le;rw[dc,qz,f.H,O5,f.d]at ab;have aA:=IJ f.c;omega
  have⟨aN,bu⟩:=uM aO;have:=ad.y.size;have a0:=f.a.Z ad.y;have bv:xt X W [] nS W:=⟨aP _ _,[],rfl,gI _ _ _ _,fun i q cs e=>(by cases e)⟩
  have a1:aa.length=k:=aN.t f.f;rw[a1]at aH⊢;have⟨cU,bQ,bt⟩:=bo a0.row (dr rfl);subst bt;have s:=jR ad aH aO a1 bu a0 bv an;clear ad aH aO aN a1 bu a0 bv an aR;have⟨b2,b3,b4,b5,cW⟩:=eQ KV
  gi_wp2
  gi_loopw [15,60] (fun v i ad=>∃j:Nat,j<=k/\i= .int .i64 j/\xt X W (qg m aa j) v ad) (fun _ i _=>k-(intOf i).toNat)
  case atStart=>exact⟨0,aQ _,rfl,s.g⟩
  obtain⟨j,bG,rfl,I⟩:=hrel;have⟨aS,af,P,aN⟩:=I.row;rw[E5]at af P;have⟨cX,cY,cZ⟩:=bo P (dr rfl);subst cZ;by_cases aC:j<k
  .obtain⟨aO,aR⟩:∃aO,m[j]? =some aO:=⟨_,aI (by rw[f.d];exact aC)⟩
   obtain⟨d,az⟩:∃d,aa[j]? =some d:=⟨_,aI (by rw[s.d];exact aC)⟩
   have bw:d<aO.length:=s.e j d _ az (by rw[f.H,dG,aR];rfl);obtain⟨q,ag⟩:∃q,aO[d]? =some q:=⟨_,aI bw⟩
   have⟨u,lo,b1,e1,e2,_⟩:=f.a.each j aO aC aR;obtain⟨b,c,b6,b7,b8,b9,rfl,a2,bx,ca⟩:=e2.cells ag;have bu:=s.b.C j (by omega);have aH:aa.getD j 0=d:=by rw[bj,az];rfl
   rw[aH]at bu;have F:=I.y;obtain⟨a0,dg,bt⟩:∃g c,Value.slice cU k bQ= .slice (g:Nat) k c:=by
    obtain⟨_,cb⟩|⟨g,c0,di,cb,_⟩:=s.f.row.2
    .omega
    exact⟨g,c0,cb⟩
   injection bt with c1 _ c2;subst c1 c2;have bv:=s.f.row.cells (g:=a0) rfl j _ e1;rw[show(⟨a0,0,none⟩:Addr).add j=⟨a0,j,none⟩ by rw[eV,cK]]at bv;have cc:=(s.f.row.lt a0 rfl).2;have:=(F.C (p:=⟨a0,j,none⟩) cc).t bv;have:=(F.C (p:=⟨cS,j,none⟩) s.b.lt).t bu;have:=(F.C (p:=(w.1.size+1+1+1:Nat)) s.f.box.lt).t s.f.box.C;have c3:=s.a.y.size;have an:(d:Int)<aO.length:=by omega
   have a1:(j:Int)<k:=by omega
   have ad:=pn I af P aN aR az ag (show wr.rangeAt b (d*12) (List.map (kF b6 b7 b8 b9 q.L) (List.range 12))from fun i x aL=>(F.C (p:=⟨b,d*12+i,none⟩) (by show b<W.1.size;omega)).t ((s.a.y.C (p:=⟨b,d*12+i,none⟩) a2).t (bx i x aL))) ca F;clear I af P aN aR az ag ca F e1 e2 bx bu aH bv cc bw c3 a2;have⟨aH,a2⟩:=eX ((List.range 12).map (kF b6 b7 b8 b9 q.L));have bu:aH.length=12:=by rw[a2];simp
   have bd:iH X 0 q aH:=by rw[a2,<-ES];exact ad.i.base (aQ _)
   have bv:=ad.h;rw[<-a2]at bv;have aT:=aD a2 bv bd;clear a2 bv bd
   gi_wp2_with (first|(refine Fb rfl 135 (.tmp 71) rfl b (d*12) rfl aH _ aT.b Gg rfl (by rw[bu];exact xQ) (h:=?_);simp only[o])|(refine D7 (fun _=>trivial) rfl 127 (.tmp 72) rfl 135 aH.toArray b2 _ rfl underlying127 b3 b4 (by rw[b5];exact bu.s) (by show 0<aH.length;omega) (by show aH.length<=_;omega) ?_;simp only[o])|(gi_at_builtin;refine sX _ (fun _=>trivial) rfl _ _ 127 rfl W.1.size 135 b2 _ 12 _ underlying127 b3 b4 b5 cW rfl (dr rfl) _ j _ rfl (ad.c.alloc _) (wr.1.size:Nat) 1 1 aH rfl (by rw[bu]) (oy _ _ _) aT.C.one (by unfold maxLen;omega) (by omega) (by have:=ad.a.y.size;simp;omega) ?_;intro bS w9 aF al a5))
   refine⟨⟨j+1,by omega,by go_num,?_⟩,by simp[intOf];omega⟩;have⟨_,af,P,aN,aR,az,ag,_,_,F⟩:=ad.y;have aU:qg m aa (j+1)=qg m aa j++[q]:=by
    rw[abA,Be aR,Be az,Be ag]
   rw[aU];exact xt.next F (E5 _ _ _).s (af.t (E5 _ _ _).s) P aN aT.C aF al
  obtain rfl:j=k:=by omega
  have a1:¬(j:Int)<j:=by omega
  have⟨ag,az⟩:=eX (pF m aa);have a2:qg m aa j=ag:=by rw[az];unfold pF;rw[f.d]
  rw[a2]at I aN;have bv:ag.length=j:=by rw[<-a2,E5]
  have⟨dj,dk,c3,ca⟩:=I.paths s.a.y;injection c3 with e1 e2 aZ;subst e1 aZ;clear e2;have bw:Below w.1.size w wr:=f.a.y.t ((s.a.y.t (I.y.m s.a.y.size)).m f.a.y.size);have bx:=WD ae g p cX cY ag wr (y.a.Z bw bF) (y.b.Z bw (av _)) ca (by omega) y.c (by
   rw[az];refine agV (by rw[<-f.H];exact s.c) fun l R t bs=>?_;rw[y.i]at R;unfold kJ at R;obtain⟨ins,cc,rfl⟩:=bX.1 R;exact y.g ins cc t bs)
  rw[bv]at bx;have c4:=(I.y.C (p:=(w.1.size:Nat)) (by have:=f.b.lt;have:=s.a.y.size;show w.1.size<W.1.size;omega)).t ((s.a.y.C (p:=(w.1.size:Nat)) f.b.lt).t f.b.C);have ad:=aD I.y az bv;clear I az a2 aN P af ca bw aC bv
  gi_wp2
  refine⟨trivial,?_⟩;refine((dh.2 bx).inRound l).m ?_;rintro e N ⟨af,ob,rfl,a2,bv,bw,T⟩;dsimp only;clear bx;obtain⟨az,dl⟩:∃az,∀w,(zeroValue 93).run prog w= .ok (.agg (J 336 az)) w:=⟨_,Kn⟩
  have bx:aj (N.alloc (.cells (J 336 az) 93)) N.1.size 93 336 az:=aj.new _ _ _ _;have aC:Below W.1.size W N:=ad.a.t (T.m ad.a.size);have:=aC.size;have:=ad.a.size;have⟨v,aS,F,P,R,aN,ax⟩:=s.a.ex;have⟨ca,cc,c5⟩:=bo P (dr rfl);subst c5;have⟨M,ao⟩:=eX ah.length;rw[<-ao]at F P R aN ax;have:M<=4096:=by rw[ao];exact bd
  have c6:=F.lt;rw[<-am.y]at F c6;have ap:=s.f;have C:=ap.da;have E:Boxed W (w.1.size+1+1) 4 (.bool false):=ap.ok;have:=ap.box.lt;have I:=P9 bx a2 aC bw F P R aN ax ao bv T ap C E;clear bx a2 aC bw F P R aN ax ao T bv c4;have key:∀F,Below N N F->Below W.1.size W F:=fun F h=>I.c.t (h.m I.c.size);cases ob with
  |false=>
   gi_wp2_with (refine uL rfl 93 (.tmp 18) (.tmp 80) rfl N.1.size 0 336 336 93 az af rfl rfl I.a (dr rfl) ur (fun i _=>I.b i) (h:=?_);intro F T ao;have P:=key _ (fJ ao);have an:Boxed F (w.1.size+1) 88 nS:=(P.block _ C.lt).t C;have a1:Boxed F (w.1.size+1+1) 4 (.bool false):=(P.block _ E.lt).t E;have R:=an.C;have:=a1.C;have ax:=an.frozen;have:=a1.frozen;clear T ao;simp only[o])
   have⟨W',R⟩:=eX ((F.setCell (w.1.size+1:Nat) nS).setCell (w.1.size+1+1:Nat) (.bool false));rw[<-R];have:w.1.size+3<X.1.size:=f.a.box.lt;have bv:W'.1.size=F.1.size:=by rw[R];simp[World.setCell]
   refine⟨ak,⟨rfl,?_,?_,?_,?_⟩,by rw[bv];exact P.size,fun b bl=> .inl bl,fun b ab aA _=>?_⟩
   .rw[R];exact(an.set _).other (by omega) _
   .rw[R];exact(a1.other (by omega) _).set _
   .rw[R];exact(((f.a.y.t ((s.a.y.t (P.m s.a.y.size)).m f.a.y.size)).setCell (p:=(w.1.size+1:Nat)) (by show w.1.size<=w.1.size+1;omega) _).setCell (p:=(w.1.size+1+1:Nat)) (by show w.1.size<=w.1.size+1+1;omega) _)
   .unfold l3;rw[PS];refine .inr (xd.2 ⟨ag,?_,?_⟩)
    .unfold nc;rw[ad.b];exact bX.2 ⟨aa,by rw[<-f.H];exact s.c,rfl⟩
    rw[ad.C,<-I.k];simp
   rw[aw.b]at ab;rw[R,cP _ _ _ _ (by show b≠w.1.size+1+1;omega),cP _ _ _ _ (by show b≠w.1.size+1;omega)];exact P.block b aA
  |true=>
   have⟨ax,aC,aN,a2,bl⟩:=eQ UW;have bw:∀u∈(List.range 336).map af,u.oneCell'=true:=fun u bx=>by obtain⟨i,_,rfl⟩:=bX.1 bx;exact I.b i
   have:B<=W.1.size:=by omega
   gi_wp2_with (first|(refine uL rfl 93 (.tmp 18) (.tmp 80) rfl N.1.size 0 336 336 93 az af rfl rfl I.a (dr rfl) ur (fun i _=>I.b i) (h:=?_);intro F T ao;have ab:=fJ ao;have P:=key _ ab;have c4:=ab.size;have c7:aj F N.1.size 93 336 af:=T.congr (fun i aK=>by unfold bm;rw[aq ⟨by omega,by omega⟩,ez]);have an:Boxed F B 88 (.slice ca M cc):=(P.block _ I.e.lt).t I.e;have:=an.C;have:=an.frozen;have aA:F.ownsRow X.1.size 93 336 (.slice ca M cc) M aS.flatten:=bP I.f P;clear T;simp only[o])|(refine vT rfl 93 (.tmp 18) rfl N.1.size 0 336 336 93 af rfl c7 (dr rfl) _ Ea rfl ur (h:=?_);simp only[Act.put,lX,mm,lP,cK])|(refine D7 (fun _=>trivial) rfl 88 (.tmp 85) rfl 93 (J 336 fun i=>af i) ax _ rfl underlying88 aC aN (by rw[a2,dF]) (by rw[dF];decide) (by rw[dF];decide) ?_;simp only[Act.put,lX,mm,lP,cK])|(gi_at_builtin;refine sX _ (fun _=>trivial) rfl _ _ 88 rfl X.1.size 93 ax _ 336 2488 underlying88 aC aN a2 bl (dF _ _) (dr rfl) _ M _ rfl (aA.alloc _) (F.1.size:Nat) 1 1 ((List.range 336).map af) rfl (by simp) (oy F _ _) bw (by unfold maxLen;omega) (by omega) (by have:=P.size;have:=s.a.y.size;simp;omega) ?_;intro bS w9 aF al a5;have⟨a6,a7,aU⟩:=bo aF (dr rfl);subst aU;have aV:=(an.alloc (.cells (J 336 fun i=>af i) 93)).K al (fun e=>an.not_row (dr rfl) aA e);have:=aV.C;have:=aV.frozen;simp only[Act.put,lX,mm,lP,cK]))
   have T:mu F wr.1.size N.1.size p.init p.N ag ((List.range 336).map af):=(mu.of (I.d (by first|rfl|trivial))).same c4 fun b _ h=>ab.block b h;have aa:gR p.init ag ag.length<=48:=by rw[ad.C];exact mf I.k.s
   rw[ad.b]at T aa;have ao:=I.e;rw[am.y]at ao;have aA:=s.a.next P I.j ao I.f (I.g.t I.j) I.h I.i ad.a.size T aa aF al a5
   rw[am.y,aw.b];exact aA
end
def pr(ks:List Nat):Nat:=ks.foldr (·*·) 1
def CJ(k)(ks):pr (k::ks)=k*pr ks:=rfl
def Ig(a b):pr (a++b)=pr a*pr b:=by
 induction a with
 |nil=>simp[pr]
 |cons x a c=>rw[iJ,CJ,CJ,c,K5]
def JX{ks}(h:∀k∈ks,1<=k):1<=pr ks:=by
 induction ks with
 |nil=>exact av _
 |cons x a b=>rw[CJ];exact Nat.mul_pos (h x (by simp)) (b fun k c=>h k (kU _ c))
def Ri(L n k)(ks):fx L n (k::ks)=fx L (min (n*k) L) ks:=by unfold fx;rfl
def Fg{L n}{ks}(h:∀k∈ks,1<=k):min n L<=fx L n ks:=by
 induction ks generalizing n with
 |nil=>unfold fx;simp;omega
 |cons x a b=>
  rw[Ri];refine aO ?_ (b fun k c=>h k (kU _ c));have:=Nat.mul_le_mul_left n (h x (by simp));omega
def Qa{L n}{ks}(h:∀k∈ks,1<=k)(b:fx L n ks<L):fx L n ks=n*pr ks:=by
 induction ks generalizing n with
 |nil=>unfold fx pr;simp
 |cons x a e=>
  rw[Ri]at b⊢;have c:∀k∈a,1<=k:=fun k f=>h k (kU _ f);have:=Fg (L:=L) (n:=min (n*x) L) c;rw[e c b,CJ,show min (n*x) L=n*x by omega,K5]
def J2(m):∀k∈gh m,1<=k:=fun k a=>by
 unfold gh at a
 grind
def acx{m}(h:8<=m):5040<=pr (gh m):=by
 induction m with
 |zero=>omega
 |succ m a=>
  by_cases e:m=7
  .subst e;decide+kernel
  rw[NN m (by omega),Ig];have:=a (by omega);have b:pr [m]=m:=by unfold pr;simp
  exact aO this (Tr _ (by omega))
def Y9{a:List Nat}(h:a.length<=7):(eM a).length=pr (gh a.length):=by
 unfold eM;rw[cV];have b:∀n,n<8->(Rl.eL n (mN n))=pr (gh n):=by decide+kernel
 exact b _ (by omega)
def ZR{a:List Nat}(h:a.length<=7):(Rl.eL a.length (mN a.length)).length<=10000:=by
 have b:∀n,n<8->(Rl.eL n (mN n)).length<=10000:=by decide+kernel
 exact b _ (by omega)
def Zl{ks}(h:∀k∈ks,1<=k){a}(b:a∈ks):a<=pr ks:=by
 induction ks with
 |nil=>cases b
 |cons x l f=>
  have c:∀k∈l,1<=k:=fun k g=>h k (kU _ g);obtain e|e:=fI.1 b
  .subst e;exact Tr _ (JX c)
  exact aO (f c e) (JY _ (h x (by simp)))
def abG(a:List Nat):pr (a.flatMap gh)=pr (a.map fun w=>pr (gh w)):=by
 induction a with
 |nil=>rfl
 |cons x l b=>rw[uz,nR,Ig,CJ,b]
def nM(init:List UInt8)(N:Nat)(ps:List Path)(limit:Nat):Nat:=uh ((bF (bd init ps)).map List.length) ((gg (bd init ps) N).map List.length) limit
def mA(init:List UInt8)(N:Nat)(ps:List Path):List gO:=if nM init N ps 1=0 then []else rI (fU init ps) (bd init ps) N
def nG(init:List UInt8)(N:Nat)(l:List (List Path))(k:Nat):Nat:=((l.take k).map fun ps=>nM init N ps 20001).sum
def Su(init)(N)(ps)(limit)(h:1<=limit):nM init N ps limit<=3*limit:=by
 unfold nM uh;split
 .omega
 have:=CT limit (fx limit 1 ((bF (bd init ps)).map List.length)) (((gg (bd init ps) N).map List.length).flatMap gh);have:=CT limit 1 ((bF (bd init ps)).map List.length);omega
def DC{init}{N}{l}{k}{ps:List Path}(h:l[k]? =ps):nG init N l (k+1)=nG init N l k+nM init N ps 20001:=by
 unfold nG;rw[jd,h];simp
def Ft{init}{N}{l}{k n}(h:k<=n):nG init N l k<=nG init N l n:=by
 induction n with
 |zero=>rw[show k=0 by omega];exact av _
 |succ n b=>
  by_cases k=n+1
  .grind
  refine aO (b (by omega)) ?_;cases a:l[n]? with
  |none=>unfold nG;rw[jd,a];simp
  |some ps=>rw[DC a];omega
def Te{init}{N}{ps}(h:nM init N ps 20001<=3000)(a:nM init N ps 1≠0):
 (rI (fU init ps) (bd init ps) N)=nM init N ps 20001/\∀l,l<N->(bI (bd init ps) l).length<=7:=by
 have⟨f,r⟩:=eX (bd init ps);unfold nM at h a⊢;rw[<-r]at h a⊢;have⟨b,j⟩:=eX ((bF f).map List.length);have⟨c,g⟩:=eX ((gg f N).map List.length);rw[<-j,<-g]at h a⊢;have s:b.contains 0=false:=by
  cases t:b.contains 0 with
  |false=>rfl
  |true=>unfold uh at a;rw[t]at a;exact absurd rfl a
 unfold uh at h⊢;rw[s,O (by simp)]at h⊢;have m:∀k∈b,1<=k:=fun k e=>by
  grind
 have o:∀k∈c.flatMap gh,1<=k:=fun k e=>by
  have⟨w,_,i⟩:=mR.1 e;exact J2 w k i
 have e2:=Qa (n:=fx 20001 1 b) o (nh h (dr rfl));have:=Fg (L:=20001) (n:=fx 20001 1 b) o;have e1:=Qa (L:=20001) (n:=1) m (by omega);rw[e2,e1,Nat.one_mul]at h⊢;rw[abG]at h⊢;have u:∀k∈c.map (fun w=>pr (gh w)),1<=k:=fun k e=>by
  obtain⟨w,_,rfl⟩:=bX.1 e;exact JX (J2 w)
 have p:∀w∈c,w<=7:=fun w i=>by
  have:=Zl u (bX.2 ⟨w,i,rfl⟩);have:pr (c.map fun w=>pr (gh w))<=pr b*pr (c.map fun w=>pr (gh w)):=JY _ (JX m);obtain q|q:=qN w 8
  .omega
  have:=acx q;omega
 refine⟨?_,fun l v=>p _ (by rw[g];unfold gg;rw[pN];exact bX.2 ⟨l,fS.2 v,rfl⟩)⟩;unfold rI;rw[cV,Lo];show pr (iK f N)=_;unfold iK;rw[Ig,<-j,g,pN];congr 2;refine Br fun x v=>Y9 (p _ (by grind))
def xk(p:a8):Option (List (List Path)):=match pY p with
 |none=>none
 |some vs=>if l3 p.init (kJ p.h vs)then some (nc (kJ p.h vs))else none
def eR(p:a8)(a:Nat):Option (List gO):=match xk p with
 |none=>none
 |some l=>if nG p.init p.N l l.length<=a then some (l.flatMap (mA p.init p.N))else none
def ag5{C}{k}{vs a:List UInt8}(h:me C k vs=a):a.length<=16:=by
 induction k generalizing vs with
 |zero=>unfold me at h;cases h
 |succ k c=>
  by_cases b:16<vs.length
  .rw[Sc b]at h;cases h
  rw[Od b]at h
  grind
def ri(W:World)(base:Nat)(v:Value)(a:List gO):Prop:=∃e:List (List Value),e.length=a.length/\W.ownsRow base 60 333 v a.length e.flatten/\
 ∀(i:Nat)(c:gO)(cs:List Value),a[i]? =some c->e[i]? =some cs->Ad W (fun b=>b<W.1.size/\v.ownBlock≠some b) c cs
def ri.next{w w1 w'}{base}{v g:Value}{cl xs}{h o:List (List Value)}(u:Below w.1.size w w1)(E:h.length=cl.length)
 (F:∀(i:Nat)(c:gO)(cs:List Value),cl[i]? =some c->h[i]? =some cs->Ad w (fun b=>b<w.1.size/\v.ownBlock≠some b) c cs)
 (J:w'.ownsRow base 60 333 g (cl.length+xs.length) (h.flatten++o.flatten))(L:o.length=xs.length)
 (H:∀(i:Nat)(c:gO)(cs:List Value),xs[i]? =some c->o[i]? =some cs->Ad w' (fun b=>w1.1.size<=b/\b<w'.1.size/\g.ownBlock≠some b) c cs)
 (M:∀b,g.ownBlock=some b->v.ownBlock=some b\/w1.1.size<=b)(y:w1.grownBy w' v.ownBlock):ri w' base g (cl++xs):=by
 refine⟨h++o,by grind,by grind,fun i c cs k1 f=>?_⟩;rw[tm]at k1 f;have:=u.size;have:=y.size;by_cases hi:i<cl.length
 .rw[aq hi]at k1;rw[aq (by omega)]at f;have⟨A,k,e1,e2,r⟩:=F i c cs k1 f;refine⟨A,k,e1,e2.same (by omega) fun a e I=>?_,fun a e=>⟨by grind,fun C=>?_⟩⟩
  .exact(y.block _ (by omega) (fun C=>(r a e).2 C.s)).t (u.block _ I)
  grind
 rw[O hi]at k1;rw[O (by omega),E]at f;have⟨A,k,e1,e2,r⟩:=H _ c cs k1 f;exact⟨A,k,e1,e2,fun a e=>(r a e).2⟩
def aeE{W:World}{base n}{v}{a:List (List Value)}(f:W.ownsRow base 93 336 v n a.flatten)(h:∀c∈a,c.length=336){i}{cs}(m:a[i]? =some cs)(e:0<n):
 ∃b c,v= .slice (b:Nat) n c/\b<W.1.size/\base<=b/\∀j u,cs[j]? =some u->W.cell? ⟨b,i*336+j,none⟩=some u:=by
 obtain⟨_,e⟩|⟨g,o,q,e,_⟩:=f.2
 .omega
 have l:=f.lt g (by rw[e];rfl);refine⟨g,o,e,l.2,l.1,fun j u p=>?_⟩;have:=f.cells (g:=g) (by rw[e];rfl) (i*336+j) u (Lq 336 a h i cs j u m p);rw[eV,cK]at this;omega
def mu.len{W}{lo hi}{init}{N}{ps}{cs}(h:mu W lo hi init N ps cs):cs.length=336:=by
 obtain⟨A,f,R,cr,S,g,U,cu,i,_⟩:=h
 grind
def yJ(W:World)(base:Nat)(v:Value)(init:List UInt8)(N:Nat)(l:List (List Path)):Prop:=
 ∃a:List (List Value),a.length=l.length/\W.ownsRow base 93 336 v l.length a.flatten/\∀(i:Nat)(ps:List Path)(cs:List Value),l[i]? =some ps->a[i]? =some cs->∃lo c,base<=lo/\mu W lo c init N ps cs/\∀b,v.ownBlock=some b->b<lo\/c<=b
def yJ.at{W}{base}{v}{init}{N}{l}(h:yJ W base v init N l){i}{ps}(hi:l[i]? =some ps):
 ∃b c lo hi A f R cr S g U cu,v= .slice (b:Nat) l.length c/\b<W.1.size/\hi<=W.1.size/\(∀j,j<336->W.cell? ⟨b,i*336+j,none⟩=some (mG (fU init ps) (.slice A (bd init ps).length f) (.slice R (bu (bd init ps)).length cr) (.slice S (bF (bd init ps)).length g) (.slice U N cu) j))/\
  (∀a,A=some a->lo<=a.block/\a.block<hi)/\eG W A (bd init ps)/\(∀a,R=some a->lo<=a.block/\a.block<hi)/\fK W R (ints (bu (bd init ps)))/\kD W lo hi S (bF (bd init ps))/\kD W lo hi U (gg (bd init ps) N):=by
 obtain⟨r,ad,C,u⟩:=h;have:=(bL.1 hi).1;obtain⟨cs,w⟩:∃cs,r[i]? =some cs:=⟨_,aI (by omega)⟩
 have⟨lo,E,_,y,_⟩:=u i ps cs hi w;have F:∀c∈r,c.length=336:=fun c o=>by
  have⟨n,ae,af⟩:=iD o;have H:l[n]? =some l[n]:=aI (by omega);have⟨_,_,_,I,_⟩:=u n _ c H (by grind);exact I.len
 have⟨b,c,J,L,_,o⟩:=aeE C F w (by omega);have M:=y.hi;obtain⟨A,f,R,cr,S,g,U,cu,ag,O,P,Q,T,X,aa⟩:=y;exact⟨b,c,lo,E,A,f,R,cr,S,g,U,cu,J,L,M,fun j ah=>o j _ (by grind),O,P,Q,T,X,aa⟩
def yJ.Z{W W'}{base}{v}{init}{N}{l}(h:yJ W base v init N l)(f:Below W.1.size W W'):yJ W' base v init N l:=by
 obtain⟨g,o,r,u⟩:=h;refine⟨g,o,bP r f,fun i ps cs a b=>?_⟩;have⟨lo,w,e1,e2,y⟩:=u i ps cs a b;exact⟨lo,w,e1,e2.same f.size fun b _ h=>f.block b (by have:=e2.hi;omega),y⟩
def M7(init:List UInt8)(N:Nat)(ps:List Path)(limit b c:Nat)(A:Option Addr)(i:Nat)(R:Option Addr)(cr:Nat)(S:Option Addr)(f:Nat)(U:Option Addr)(cu lo g:Nat)(w:World)(l:1<=limit)(m:limit<=100000)(t:N<=6)(n:(bd init ps).length<=48)
 (h:∀j,j<336->w.cell? ⟨b,c+j,none⟩=some (mG (fU init ps) (.slice A (bd init ps).length i) (.slice R (bu (bd init ps)).length cr) (.slice S (bF (bd init ps)).length f) (.slice U N cu) j))
 (o:kD w lo g S (bF (bd init ps)))(p:kD w lo g U (gg (bd init ps) N)):
 Calls prog 22 #[.pointer (some ⟨b,c,none⟩),.int .i64 limit] w fun e q=>e= .returned (.int .i64 (nM init N ps limit))/\q=w:=by
 have:(bu (bd init ps)).length<=48:=aO (Mz _ _) n;have e1:=h 334 (dr rfl);have e2:=h 335 (dr rfl);rw[Gi]at e1;have s:(gg (bd init ps) N).length=N:=by unfold gg;simp
 refine aah b c S U f cu (bF (bd init ps)) (gg (bd init ps) N) limit w l m (by unfold bF;rw[cV];omega) (by omega) (fun x a=>?_) (fun x a=>?_) e1 (by rw[s];exact e2.t (cs (by unfold mG;simp))) o.at p.at
 .unfold bF at a;obtain⟨r,_,rfl⟩:=bX.1 a;have:=Tc (bd init ps) r;omega
 unfold gg at a;obtain⟨r,_,rfl⟩:=bX.1 a;have:=vy (bd init ps) (bd init ps).length r;unfold bI;omega
def Wm{W0 W}{lo hi b o p0}{init}{N}{ps}{A}{ec}{R}{cr}{S}{cS}{U}{cu}{fp}
 (g:∀a,A=some a->lo<=a.block/\a.block<hi)(l:eG W0 A (bd init ps))(h:∀a,R=some a->lo<=a.block/\a.block<hi)(m:fK W0 R (ints (bu (bd init ps))))(n:kD W0 lo hi S (bF (bd init ps)))(p:kD W0 lo hi U (gg (bd init ps) N))
 (c:W0.1.size<=W.1.size)(f:∀q,lo<=q->q<hi->W.1[q]? =W0.1[q]?)(r:Boxed W p0 138 (.pointer (some ⟨b,o,none⟩)))(s:b<W.1.size)
 (t:∀j,j<336->W.cell? ⟨b,o+j,none⟩=some (mG (fU init ps) (.slice A (bd init ps).length ec) (.slice R (bu (bd init ps)).length cr) (.slice S (bF (bd init ps)).length cS) (.slice U N cu) j))(i:bh W)(u:∀q∈fp,q<W.1.size):
 zj b o p0 (fU init ps) (bd init ps) N A ec R cr S cS U cu fp W:=
 ⟨r,t,s,l.same c fun a e _=>f _ (g a e).1 (g a e).2,m.same c fun a e _=>f _ (h a e).1 (h a e).2,(n.same c f).at,(p.same c f).at,i,i.lt,u⟩
def aeD{init}{ps}{l}(h:l<init.length)(a:init.length<=6):l∈bI (bd init ps) l:=by
 refine Bj.2 ?_;have:(qS init init.length).length=init.length:=Ds _ _;have e:(bd init ps)[l]? =some (kP l (init.getD l 0)):=by
  unfold bd jr;rw[lE (by omega)];unfold qS;simp[h]
 refine⟨((bL.1 e).1),_,e,rfl,?_⟩;show(UInt8.ofNat l).toNat=l;rw[pw,Ga (by omega)]
def Ab.Z{w w'}{g}{p}(h:Ab w g p)(y:eE w g p)(i:Below w.1.size w w'):Ab w' g p:=by
 intro M o n c e k ins A C r E;have⟨T,N,F,H⟩:=y.h;have:=(bL.1 r).1;have⟨b,off,I,J,_⟩:=H (by omega);have u:=F.s.t e;rw[I]at u;injection u with f _ _;injection f with f;injection f with L O _;subst L;exact(h b o n c e k ins A C r ((i.C (p:=⟨b,o+k,none⟩) J).s.t E)).Z i
def adA{p:a8}{vs}{ps}(h:l3 p.init (kJ p.h vs)=true)(a:ps∈nc (kJ p.h vs)):(bd p.init ps).length<=48:=by
 unfold l3 at h;rw[cH]at h;have:=mf (mw.1 h.2 ps a);unfold bd;rw[wU];omega
def ri.less{W}{b b'}{v}{cl}(h:ri W b v cl)(f:b'<=b):ri W b' v cl:=by
 obtain⟨g,i,o,r⟩:=h;exact⟨g,i,ft o f,r⟩
def Qd{init}{N}{l}(h:nG init N l l.length<=3000)(k)(a:k<=l.length):((l.take k).flatMap (mA init N)).length<=nG init N l k:=by
 induction k with
 |zero=>simp
 |succ k b=>
  have e:l[k]? =some l[k]:=aI (by omega);rw[DC e,jd,e,oI,dc];have g:=b (by omega);have c:=Ft (init:=init) (N:=N) (l:=l) (k:=k+1) (n:=l.length) a;rw[DC e]at c;have i:(mA init N l[k]).length<=nM init N l[k] 20001:=by
   unfold mA;split
   .grind
   rename_i f;rw[(Te (by omega) f).1];omega
  grind
def Wv(g:Nat->Value)(p:a8)(x:Nat)(w:World)(bn:x<=3000)(m:CG p)(f:eE w g p)(o:jH w g)(z:Ab w g p)(I:bh w)
 (L:∀Q:List UInt8,∀ins∈p.h,∀t∈ru ins (cF Q),xo p.N t):
 Calls prog 13 #[.agg (J 10 g),.int .i64 x] w fun e a1=>
  ∃v,e= .returned (.tuple #[v,.int .i64 (if(eR p x).isSome then 0 else 5)])/\(∀ah,eR p x=some ah->ri a1 w.1.size v ah)/\Below w w a1:=by
 have⟨ai,r⟩:=eX (eR p x);rw[<-r];have⟨E,s⟩:=eX (if ai.isSome then 0 else 5:Int);rw[<-s];have⟨T,bQ,P,X⟩:=f.h;have u:Below w w (w.alloc (.cells (J 10 g) 29)):=ba w _;have y:=o (w.alloc (.cells (J 10 g) 29)) u;have:¬((x:Int)<0):=by omega
 have:=gX (by omega);have a:=pn (show aj (w.alloc (.cells (J 10 g) 29)) w.1.size 29 10 g from aj.new _ _ _ _) u m f o z I L r s;clear u m f o z I L r s P X;rw[show J 10 g=#[g 0,g 1,g 2,g 3,g 4,g 5,g 6,g 7,g 8,g 9]from rfl]at y⊢;go_enter func13,ntmps13
 go_wp2_with fail
 refine y.st fun bp o=>?_;clear y;have f:=a.b.t (o.m a.b.size);have r:=a.a.Z o a.a.lt;have bq:=r.lt;have z:=adg g p bp a.c (a.d.Z f (av _)) (a.e.Z f);have⟨a2,s⟩:=eX (pY p);rw[<-s]at z;have⟨a3,u⟩:=eX (if a2.isSome then 0 else 5:Int);rw[<-u]at z;have I:=aY f r s u;clear o f r s u
 go_wp2_with (refine nF rfl 29 (.tmp 2) rfl w.1.size 0 10 10 29 g rfl I.b (dr rfl) _ fN rfl gC (h:=?_);simp only[Act.put,lX,mm,lP,cK])
 refine z.m ?_;rintro e a4 ⟨br,rfl,s,r⟩;clear z;have f:=I.a.t (r.m I.a.size);cases a2 with
 |none=>
  obtain rfl:a3=5:=I.D;have ak:=H f;clear r f s
  go_wp2_with fail
  have o:ai=none:=by rw[a.i];unfold eR xk;rw[<-I.c]
  go_ret2
  exact⟨_,by rw[a.J,o];rfl,fun ah e=>(by rw[o]at e;cases e),ak.y⟩
 |some vs=>
  obtain rfl:a3=0:=I.D;have⟨u,y⟩:=s vs rfl;have aa:vs.length<=16:=by
   have h:=I.c.s;unfold pY at h;exact ag5 h
  obtain⟨an,aH,rfl⟩:∃an aH,br= .slice (an:Nat) vs.length aH:=by
   obtain⟨_,aK⟩|⟨an,bs,bS,aK,_⟩:=y.2
   .exact absurd (zM aK) u
   exact⟨an,bs,aK⟩
  have L:=I.b.Z r bq;have P:=a.g.Z f a.g.lt;have X:=YM w.1.size g p (an:Nat) vs aH a4 L (a.d.Z f (av _)) a.c (CO y) (by omega) u (a.f.Z a.d f) P (a.h vs);have ak:=aA f P;have:=L.lt;clear r f s u y L P aa
  go_wp2_with fail
  refine X.m ?_;rintro e a5 ⟨a6,bt,rfl,m,u,L⟩;clear X;have P:=ak.a.t (u.m ak.a.size);have⟨aL,s⟩:=eX (kJ p.h vs);rw[<-s]at m L;cases bt with
  |false=>
   have o:ai=none:=by rw[a.i];unfold eR xk;rw[<-I.c];dsimp only;rw[<-s,<-m];rfl
   have f:=aA P o;clear u P m L o s;go_wp2
   go_ret2
   exact⟨_,by rw[a.J,f.B];rfl,fun ah e=>(by rw[f.B]at e;cases e),f.a⟩
  |true=>
   have⟨l,y⟩:=eX (nc aL);have X:yJ a5 a4.1.size a6 p.init p.N l:=by rw[y];exact L rfl
   have ab:ai=if nG p.init p.N l l.length<=x then some (l.flatMap (mA p.init p.N))else none:=by
    rw[a.i];unfold eR xk;rw[<-I.c];dsimp only;rw[<-s,<-m,y];rfl
   have ad:∀ps∈l,(bd p.init ps).length<=48:=fun ps r=>adA (p:=p) (vs:=vs) (by rw[<-s];exact m.s) (by rw[<-s,<-y];exact r);have af:l.length<=4096:=by
    have bu:qR aL aL.length=true:=by
     have h:=m.s;unfold l3 at h;rw[cH]at h;exact h.1
    rw[y];unfold nc;rw[cV,O5];exact IJ bu
   have ae:=ak.B.Z u ak.B.lt;have⟨M,aa⟩:=eX l.length;obtain⟨a7,a9,bv⟩:∃a7 a9,a6= .slice a7 M a9:=by
    obtain⟨aM,_,bw,_⟩:=X;rw[aa];exact bo bw (dr rfl)
   subst bv;have:=u.size;have f:=dC P X ab ad ae aa;have:M<=4096:=by omega
   clear u P m L s X ab ad ae y af aa;go_wp2
   go_loopw [10,41] (fun n i wr=>∃k,k<=M/\i= .int .i64 k/\wr=a5/\n= .int .i64 (nG p.init p.N l k)/\nG p.init p.N l k<=x) (fun _ i _=>M-(intOf i).toNat)
   case atStart=>exact⟨0,aQ _,rfl,rfl,rfl,aQ _⟩
   obtain⟨k,bT,rfl,rfl,rfl,aN⟩:=hrel;by_cases az:k<M
   .obtain⟨ps,r⟩:∃ps,l[k]? =some ps:=⟨_,aI (by rw[<-f.F];exact az)⟩
    have⟨b,c,lo,ad,A,ao,R,cr,S,ap,U,cu,z,aB,bx,ae,ar,au,aw,ax,af,ag⟩:=f.b.at r;rw[<-f.F]at z;injection z with e1 _ aR;subst e1 aR;have L:=M7 p.init p.N ps 20001 b (k*336) A ao R cr S ap U cu lo ad wr (dr rfl) (dr rfl) a.c.iG (f.d ps (cB r)) ae af ag;have⟨C,s⟩:=eX (nM p.init p.N ps 20001);have:C<=3*20001:=by rw[s];exact Su _ _ _ _ (dr rfl)
    have u:=DC (init:=p.init) (N:=p.N) r;rw[<-s]at L u;have⟨al,m⟩:=eX (nG p.init p.N l k);rw[<-m]at u aN⊢;have bU:(k:Int)<M:=by omega
    have P:=aD s u m;clear s u m ae ar au aw ax af ag r
    go_wp2_with fail
    refine L.m ?_;rintro e bb ⟨rfl,rfl⟩;clear L;by_cases x<al+C
    .have bc:(x:Int)<al+C:=by omega
     go_wp2_with fail
     have o:ai=none:=by
      rw[f.c,O];have:=Ft (init:=p.init) (N:=p.N) (l:=l) (k:=k+1) (n:=l.length) (by rw[<-f.F];omega);rw[P.b]at this;omega
     go_ret2
     exact⟨_,by rw[a.J,o];rfl,fun ah e=>(by rw[o]at e;cases e),f.a⟩
    have bc:¬(x:Int)<al+C:=by omega
    go_wp2;refine⟨⟨k+1,by omega,by go_num,trivial,by rw[P.b];go_num,by rw[P.b];omega⟩,by simp[intOf];omega⟩
   obtain rfl:k=M:=by omega
   have⟨y,bz⟩:=eX wr;subst bz;have:¬(k:Int)<k:=by omega
   have⟨al,m⟩:=eX (nG p.init p.N l k);rw[<-m]at aN⊢;have u:nG p.init p.N l l.length<=x:=by rw[<-f.F,<-m];exact aN
   have aC:=H u;clear u m;have⟨bF,bG,bH,bJ,bK⟩:=eQ Rz
   go_wp2_with (at_make;refine wpList_make_own y rfl _ _ 45 rfl y.1.size 60 bF _ 333 underlying45 bG bH bJ .i64 .i64 _ al rfl rfl rfl (by rw[bK];omega) (by unfold maxLen;omega) (av _) ?_;intro bb m u)
   have be:=aA ((aP _ y).b u (av _) (fun b e=>by cases e)) (show ri bb y.1.size (.slice y.1.size 0 al) []from⟨[],rfl,m,fun i c cs e=>by cases e⟩);clear m u
   go_loopw [12,58] (fun v i m=>∃j,j<=k/\i= .int .i64 j/\Below y y m/\ri m y.1.size v ((l.take j).flatMap (mA p.init p.N))) (fun _ i _=>k-(intOf i).toNat)
   case atStart=>exact⟨0,aQ _,rfl,be.a,be.B⟩
   obtain⟨j,bf,rfl,m,am⟩:=hrel;have bL:=Qd (aO aC.y bn) j (by rw[<-f.F];exact bf);have:=Ft (init:=p.init) (N:=p.N) (l:=l) (k:=j) (n:=l.length) (by rw[<-f.F];exact bf);by_cases az:j<k
   .obtain⟨ps,r⟩:∃ps,l[j]? =some ps:=⟨_,aI (by rw[<-f.F];exact az)⟩
    have⟨b,c,lo,ad,A,ao,R,cr,S,ap,U,cu,z,aB,bx,ae,ar,au,aw,ax,af,ag⟩:=f.b.at r;rw[<-f.F]at z;injection z with e1 _ aR;subst e1 aR;have aS:=f.d ps (cB r);have aE:=m.size;have L:=M7 p.init p.N ps 1 b (j*336) A ao R cr S ap U cu lo ad wr (dr rfl) (dr rfl) a.c.iG aS (fun i ad=>(m.C (p:=⟨b,j*336+i,none⟩) aB).t (ae i ad)) (af.same aE fun q _ h=>m.block q (by omega)) (ag.same aE fun q _ h=>m.block q (by omega));have⟨C,s⟩:=eX (nM p.init p.N ps 1);rw[<-s]at L;have X:(l.take (j+1)).flatMap (mA p.init p.N)=(l.take j).flatMap (mA p.init p.N)++mA p.init p.N ps:=by rw[jd,r];simp
    obtain⟨aM,aa,u,ab⟩:=am;have⟨aT,aU⟩:=eX ((l.take j).flatMap (mA p.init p.N));rw[<-aU]at aa u ab X bL;obtain⟨bg,bi,rfl⟩:=bo u (dr rfl);have bc:(j:Int)<k:=by omega
    by_cases aV:C=0
    .subst aV;have P:=dC m aa u ab X s;clear m aa u ab X s ae ar au aw ax af ag r aU
     go_wp2_with fail
     refine L.m ?_;rintro e bN ⟨rfl,rfl⟩;clear L
     go_wp2_with fail
     have⟨m,aa,u,ab,X,s⟩:=P.y;refine⟨⟨j+1,by omega,by go_num,m,?_⟩,by simp[intOf];omega⟩;rw[X];unfold mA;rw[<-s,aq rfl,kL];exact⟨aM,aa,u,ab⟩
    have aX:=Te (init:=p.init) (N:=p.N) (ps:=ps) (by
     have ay:=Ft (init:=p.init) (N:=p.N) (l:=l) (k:=j+1) (n:=l.length) (by rw[<-f.F];exact az);rw[DC r]at ay;have:=aC.y;omega) (by rw[<-s];exact aV)
    have aF:mA p.init p.N ps=rI (fU p.init ps) (bd p.init ps) p.N:=by unfold mA;rw[<-s,O aV]
    have:(rI (fU p.init ps) (bd p.init ps) p.N).length<=60003:=by rw[aX.1];exact Su _ _ _ _ (dr rfl)
    have:=qd.2 (by omega);have bj:=Zf b (j*336) wr;have⟨bV,bO⟩:=eX (bd p.init ps);have aZ:∀q,q<p.N->bI (bd p.init ps) q≠[]:=fun q a0 e=>by
     have:=aeD (init:=p.init) (ps:=ps) (l:=q) (by rw[a.c.init];exact a0) (by rw[a.c.init];exact a.c.iG);rw[e]at this;cases this
    have bl:bd p.init ps≠[]:=fun e=>aZ 0 a.c.pg (by rw[e];rfl);have bm:=aew y.1.size aT.length (.slice bg aT.length bi) aM.flatten 57 #[.pointer wr.1.size] (rI (fU p.init ps) (bd p.init ps) p.N) (zj b (j*336) wr.1.size (fU p.init ps) (bd p.init ps) p.N A ao R cr S ap U cu) (wr.alloc (.cells #[.pointer (some ⟨b,j*336,none⟩)] 138)) (u.alloc _) (by simp;omega) (by have:=aC.y;omega)
     (gH func57 rfl rfl) (afy b (j*336) wr.1.size (fU p.init ps) (bd p.init ps) p.N A ao R cr S ap U cu _ aS a.c.iG (fun q a0=>ZR (aX.2 q a0)) aZ bl a.c.pg 8)
     (fun bX W aG bP=>by
       have ay:=(m.alloc aE _).b aG (by simp;omega) (fun q e=>(u.lt q e).1);exact Wm ar au aw ax af ag ay.size (fun q _ h=>ay.block q (by omega)) ((dE wr 138 (.pointer (some ⟨b,j*336,none⟩))).K aG (fun e=>by have:=(u.lt _ e.s).2;omega)) (aW aB ay.size) (fun i ad=>(ay.C (p:=⟨b,j*336+i,none⟩) aB).t (ae i ad)) (f.e.Z ay f.e.lt) bP)
    have P:=dH m aa u ab X aF (show∀ay,(wr.alloc (.cells #[.pointer (some ⟨b,j*336,none⟩)] 138)).grownBy ay (Value.slice bg aT.length bi).ownBlock->Below y y ay from fun ay aG=>(m.alloc aE _).b aG (by simp;omega) (fun q e=>(u.lt q e).1));clear m aa u ab X s ae ar au aw ax af ag r aU aX aF aZ bl bO aS
    go_wp2_with fail
    refine L.m ?_;rintro e bN ⟨rfl,rfl⟩;clear L
    go_wp2_with fail
    refine bj.m ?_;rintro e ay ⟨rfl,rfl⟩;clear bj
    go_wp2_with fail
    refine bm.m ?_;rintro e au ⟨aw,ax,rfl,s,L,ae,af,r⟩;clear bm;have ag:=bM s L ae af r;clear s L ae af r
    go_wp2_with fail
    have⟨m,aa,u,ab,X,aF,ar⟩:=P.y;have⟨s,L,ae,af,r⟩:=ag.y;refine⟨⟨j+1,by omega,by go_num,ar _ r,?_⟩,by simp[intOf];omega⟩;rw[X,aF];exact ri.next (ba _ _) aa ab s L ae af r
   obtain rfl:j=k:=by omega
   have:¬(j:Int)<j:=by omega
   have o:ai=some (l.flatMap (mA p.init p.N)):=by rw[f.c,aq aC.y]
   rw[show l.take j=l by rw[f.F];exact nH]at am;have P:=aD m am o;clear m am o
   go_wp2_with fail
   have⟨m,am,o⟩:=P.y
   go_ret2
   refine⟨_,by rw[a.J,o];rfl,fun ah e=>?_,f.a.t (m.m f.a.size)⟩;rw[o]at e;cases e;exact am.less f.a.size
namespace Fl
def FY(P:Program)(a:TypeId->Option (List (Option IntKind))):List Field->Nat->Option (List (Option IntKind))
 |[],_=>some []
 |f::c,b=>if f.offset=b then match a f.type with
  |some ks=>if ks.length=P.cellsOf f.type then(FY P a c (b+ks.length)).map (ks++·)else none
  |none=>none
  else none
def flatK(P:Program):Nat->TypeId->Option (List (Option IntKind))
 |0,_=>none
 |d+1,t=>match P.underlying t with
  |some .bool=>some [none]
  |some (.int q)=>some [some q]
  |some (.array n e)=>match flatK P d e with
   |some ks=>if ks.length=P.cellsOf e/\n*ks.length=P.cellsOf t then some (List.replicate n ks).flatten else none
   |none=>none
  |some (.struct a)=>match FY P (flatK P d) a.toList 0 with
   |some ks=>if ks.length=P.cellsOf t/\a.all (·.name != "_")=true then some ks else none
   |none=>none
  |_=>none
def qQ:Option IntKind->Value->Option Lit
 |none,.bool b=>some (.bool b)
 |some q,.int a n=>if a=q/\(Lit.int q n).wf=true then some (.int q n)else none
 |_,_=>none
def dU:List (Option IntKind)->List Value->Option (List Lit)
 |[],[]=>some []
 |k::ks,v::vs=>match qQ k v,dU ks vs with
  |some l,some a=>some (l::a)
  |_,_=>none
 |_,_=>none
def Ki{v}{l}(h:qQ none v=some l):∃b,v= .bool b/\l= .bool b:=by
 cases v with
 |bool b=>unfold qQ at h;injection h with h;exact⟨b,rfl,h.s⟩
 |_=>unfold qQ at h;cases h
def Jj{q}{v}{l}(h:qQ (some q) v=some l):∃n,v= .int q n/\l= .int q n/\(Lit.int q n).wf=true:=by
 cases v with
 |int a n=>
  change(if a=q/\(Lit.int q n).wf=true then some (Lit.int q n)else none)=some l at h
  grind
 |_=>unfold qQ at h;cases h
def AZ{k}{ks}{cs}{ls}(h:dU (k::ks) cs=some ls):∃v vs l a,cs=v::vs/\ls=l::a/\qQ k v=some l/\dU ks vs=some a:=by
 cases cs with
 |nil=>unfold dU at h;cases h
 |cons v vs=>
  unfold dU at h
  grind
def Cs{ks}:∀{cs:List Value}{a:List Lit},dU ks cs=some a->cs.length=ks.length:=by
 induction ks with
 |nil=>intro cs a h;cases cs with
  |nil=>rfl
  |cons v vs=>unfold dU at h;cases h
 |cons k ks b=>intro cs a h;obtain⟨v,vs,l,e,rfl,_,_,c⟩:=AZ h;simp[b c]
def O9{a}{b}:∀{cs:List Value}{c:List Lit},dU (a++b) cs=some c->∃e f,c=e++f/\dU a (cs.take a.length)=some e/\dU b (cs.drop a.length)=some f:=by
 induction a with
 |nil=>intro cs c h;exact⟨[],c,rfl,by unfold dU;rfl,h⟩
 |cons k a g=>
  intro cs c h;obtain⟨v,vs,l,o,rfl,rfl,i,j⟩:=AZ (ks:=a++b) h;obtain⟨e,f,rfl,m,n⟩:=g j;exact⟨l::e,f,rfl,by simp only[gL,List.take_succ_cons];unfold dU;rw[i,m],n⟩
def RN{ks}:∀(n:Nat){cs:List Value}{b:List Lit},dU (List.replicate n ks).flatten cs=some b->∃L:List (List Lit),L.length=n/\b=L.flatten/\∀i,i<n->dU ks ((cs.drop (i*ks.length)).take ks.length)=L[i]?
 |0,cs,b,h=>by
  have a:=h;cases cs with
  |nil=>unfold dU at a;injection a with a;exact⟨[],rfl,a.s,fun i c=>absurd c (jD _)⟩
  |cons v vs=>unfold dU at a;cases a
 |n+1,cs,b,h=>by
  obtain⟨e,m,rfl,f,g⟩:=O9 h;obtain⟨L,j,rfl,l⟩:=RN n g;refine⟨e::L,by simp[j],rfl,fun i c=>?_⟩;cases i with
  |zero=>rw[Jt,List.drop_zero,f];rfl
  |succ i=>
   have:=l i (by omega);rw[Lt]at this
   grind
def mapM_some{a c:Type}(f):∀(l:List a)(L:List c),L.length=l.length->(∀(i:Nat)(x:a),l[i]? =some x->f x=L[i]?)->l.mapM f=some L
 |[],L,h,_=>by grind
 |x::l,[],h,_=>by simp at h
 |x::l,y::L,h,b=>by
  rw[List.mapM_cons,b 0 x rfl,mapM_some f l L (by grind) fun i z e=>by have:=b (i+1) z e;simpa using this];rfl
variable{P:Program}
def P6(d)(m:∀(t:TypeId) ks cs b,flatK P d t=some ks->dU ks cs=some b->P.keyLits d t cs=some b)(j:List Value):∀(c:List Field)(e:Nat) ks cs b,FY P (flatK P d) c e=some ks->dU ks cs=some b->cs=j.drop e->
 ∃L:List (List Lit),L.length=c.length/\b=L.flatten/\∀(i:Nat)(f:Field),c[i]? =some f->P.keyLits d f.type ((j.drop f.offset).take (P.cellsOf f.type))=L[i]?
 |[],e,ks,cs,b,h,a,_=>by
  cases h;cases cs with
  |nil=>unfold dU at a;injection a with a;exact⟨[],rfl,a.s,fun i f u=>by grind⟩
  |cons v vs=>unfold dU at a;cases a
 |f::c,e,ks,cs,b,h,a,w=>by
  unfold FY at h;split at h
  .split at h
   .rename_i l x;split at h
    .obtain⟨n,o,rfl⟩:=Iw.1 h;obtain⟨p,q,rfl,y,r⟩:=O9 a;obtain⟨L,s,rfl,z⟩:=P6 d m j c (e+l.length) n (cs.drop l.length) q o r (by simp_all);refine⟨p::L,by simp[s],rfl,fun i g A=>?_⟩
     grind
    cases h
   cases h
  cases h
def C4:∀(d:Nat)(t) ks cs g,flatK P d t=some ks->dU ks cs=some g->P.keyLits d t cs=some g
 |0,_,_,_,_,h,_=>by unfold flatK at h;cases h
 |d+1,t,ks,cs,g,h,f=>by
  unfold flatK at h;have H:=Cs f;split at h
  .rename_i c;injection h with h;subst h;obtain⟨v,vs,l,I,rfl,rfl,m,a⟩:=AZ f;cases vs with
   |nil=>
    unfold dU at a;injection a with a;subst a;obtain⟨b,rfl,rfl⟩:=Ki m;simp[Program.keyLits,c]
   |cons v vs=>unfold dU at a;cases a
  .rename_i q c;injection h with h;subst h;obtain⟨v,vs,l,I,rfl,rfl,m,a⟩:=AZ f;cases vs with
   |nil=>
    unfold dU at a;injection a with a;subst a;obtain⟨z,rfl,rfl,J⟩:=Jj m;simp[Program.keyLits,c,J]
   |cons v vs=>unfold dU at a;cases a
  .rename_i n e c;split at h
   .rename_i o p;split at h
    .rename_i j;injection h with h;subst h;obtain⟨L,r,rfl,s⟩:=RN n f;simp only[Program.keyLits,c];rw[aq (by rw[H,<-j.2];simp)];rw[mapM_some _ (List.range n) L (by simp[r]) fun i x u=>?_]
     .rfl
     have⟨w,A⟩:=bL.1 u;simp at w A;subst A;obtain⟨y,C⟩:∃y,L[i]? =some y:=⟨_,aI (by omega)⟩
     have E:=s i w;rw[C]at E;rw[C,<-j.1];exact C4 d e o _ _ p E
    cases h
   cases h
  .rename_i F c;split at h
   .rename_i o p;split at h
    .rename_i j;injection h with h;subst h;obtain⟨L,r,rfl,s⟩:=P6 d (C4 d) cs F.toList 0 o cs g p f rfl;simp only[Program.keyLits,c];rw[aq ⟨by omega,j.2⟩];rw[mapM_some _ F.toList L r fun i x u=>s i x u];rfl
    cases h
   cases h
  cases h
def adM{ks}:∀{cs a:List Value}{c:List Lit},dU ks cs=some c->dU ks a=some c->cs=a:=by
 induction ks with
 |nil=>
  intro cs a c h f;have g:=Cs h;have j:=Cs f
  grind
 |cons k ks n=>
  intro cs a c h f;obtain⟨v,vs,l,o,rfl,rfl,g,j⟩:=AZ h;obtain⟨p,r,s,t,rfl,e,i,u⟩:=AZ f;cases k with
  |none=>
   obtain⟨b,rfl,rfl⟩:=Ki g;obtain⟨m,rfl,e⟩:=Ki i
   grind
  |some q=>
   obtain⟨b,rfl,rfl,_⟩:=Jj g;obtain⟨m,rfl,e,_⟩:=Jj i
   grind
def zh(w){t}{ks}{d m}(i:flatK P d t=some ks)(n:P.keyTypeAt m t=true)(p:m<=10000)(q:(match P.underlying t with|some (.array _ _)|some (.struct _)=>true|_=>false)=true)(s:P.cellsOf t=ks.length){xs ys:Array Value}{lx ly}
 (a:dU ks xs.toList=some lx)(c:dU ks ys.toList=some ly):∃b:Bool,(b=true↔xs=ys)/\(binOp .eql t xs ys).run P w= .ok b w/\(binOp .neq t xs ys).run P w= .ok (.bool !b) w:=by
 have j:∀{f:Array Value}{l:List Lit},dU ks f.toList=some l->(Value.agg f).formed P t=true:=fun{f l} h=>by
  have:=Cs h;unfold Value.formed
  grind
 have⟨r,g,o⟩:=run_equalIn_deep (10000-m) m t n w d d xs ys lx ly (j a) (j c) (C4 d t ks _ _ i a) (C4 d t ks _ _ i c);rw[show 10000-m+m=10000 by omega]at g;refine⟨r,?_,by rw[run_eql_struct,g];rfl,by rw[run_neq_struct,g];rfl⟩;rw[o];constructor
 .intro e;subst e;exact Array.ext' (adM a c)
 grind
def aaR{t}{ks}(c:flatK P (P.types.size+1) t=some ks)(e:P.keyType t=true)(a:(match P.underlying t with|some (.array _ _)|some (.struct _)=>true|_=>false)=true)(g:P.cellsOf t=ks.length){xs:Array Value}{lx}
 (b:dU ks xs.toList=some lx):keyOf P t xs=some (.string (keyBytes lx)):=by
 have f:(Value.agg xs).formed P t=true:=by
  have:=Cs b;unfold Value.formed
  grind
 unfold keyOf;revert a;cases h:P.underlying t with
 |none=>intro a;cases a
 |some u=>cases u<;>intro a<;>first|(simp only[e,f,Bool.and_self,yk];show Option.map _ (P.keyLits _ _ xs.toList)=_;rw[(C4 _ t ks _ _ c b)];rfl)|cases a
def EN(ks)(g)(L)(h:∀i k,ks[i]? =some k->qQ k (g i)=some (L i)):dU ks ((List.range ks.length).map g)=some ((List.range ks.length).map L):=by
 induction ks generalizing g L with
 |nil=>rfl
 |cons k ks a=>
  rw[gL,Na,nR,nR,pN,pN];unfold dU
  grind
end Fl
def uO(N:Nat):List aN->Int->Nat->Prop
 |[],_,_=>True
 |x::xs,t,m=>t<=x.C/\x.C<4/\x.ev.pos.toNat=(if x.C=t then m else 0)/\((x.ev.kind=1/\x.ev.loc.toNat<N\/x.ev.kind=2/\x.ev.loc.toNat<N)\/x.ev.kind=3/\x.ev.loc=0/\x.ev.val=0)/\uO N xs x.C (x.ev.pos.toNat+1)
structure zJ(N:Nat)(F:List aN):Prop where
 len:F.length<=48
 pg:1<=N
 iG:N<=6
 many:N<=F.length
 init:∀i,i<N->∃v,F[i]? =some (kP i v)
 rest:uO N (F.drop N) 0 0
def zJ.C{N}{F}(h:zJ N F){x:aN}(i:F[N]? =x):0<=x.C:=by
 have f:=h.rest;have g:=(bL.1 i)
 rw[zD g.1,g.2]at f;exact f.1
section
attribute [local irreducible] Code.wp wpList Oper.wp wpQuiet
def Wn{P}{ops}{rest}{a}{w}{Q}{d}{ty}{x}{tp}{ps af g}(h:wpList P ops Q (Oper.mk d (.load ty x) tp ps af g::rest) a w):wpList P ops Q (Oper.mk d (.load ty x) tp ps af g::rest) a w:=h
def ag7{P}{ops}{rest}{a}{w}{Q}{d}{ty}{x y}{tp}{ps af g}(h:wpList P ops Q (Oper.mk d (.store ty x y) tp ps af g::rest) a w):wpList P ops Q (Oper.mk d (.store ty x y) tp ps af g::rest) a w:=h
def l4{ops}{rest}{op}{a}{w}{Q}(c:op.guard=none)(x)(f:op.op= .load 143 x)(b o)(g:a.eval x= .pointer (some ⟨b,o,none⟩))
 (e)(i:w.rangeAt b o ((List.range 7).map (a6 e)))(h:wpList prog ops Q rest (a.put op.dst (J 7 (a6 e))) w):wpList prog ops Q (op::rest) a w:=
 iI c _ x f b o g ((List.range 7).map (a6 e)) _ i iy rfl eH h
def l6{ops}{rest}{op}{a}{w:World}{Q}(c:op.guard=none)(x y)(f:op.op= .store 143 x y)(e)
 (g:a.eval x= .pointer w)(j:a.eval y= .agg (J 7 (a6 e)))
 (h:∀b,aj b w 143 7 (a6 e)->Below w w b->wpList prog ops Q rest (a.put op.dst undef) b):
 wpList prog ops Q (op::rest) a (w.alloc (.cells #[.int .i64 0,.int .u8 0,.int .u8 0,.int .u8 0,.int .u8 0,.int .u8 0,.int .u8 0] 143)):=by
 have l:aj (w.alloc (.cells #[.int .i64 0,.int .u8 0,.int .u8 0,.int .u8 0,.int .u8 0,.int .u8 0,.int .u8 0] 143)) w 143 7 (eS jN):=aj.dq _ _ _ _ _ rfl;refine eP c _ x y f w 0 7 7 143 (eS jN) (a6 e) g j l (dr rfl) eH (fun i _=>sQ _ _) fun b m n=>h b (m.congr fun i o=>?_) (fJ n);unfold bm;rw[aq ⟨by omega,by omega⟩,ez]
def eG.row{W W'}{A}{F}(h:eG W A F)(i:Below W W W'){k}{x:aN}(o:F[k]? =x):∃b f,A=some ⟨b,f,none⟩/\b<W/\W'.rangeAt b (f+k*7) ((List.range 7).map (a6 x)):=by
 have⟨b,f,e,g,r⟩:=h (by grind);exact⟨b,f,e,g,Cj fun j u=>(i.C (p:=⟨b,f+k*7+j,none⟩) g).t (r k x o j u)⟩
def Wg(A)(c N)(F)(w)(a:zJ N F)(f:eG w A F):
 Calls prog 61 #[.slice A F c] w (Rs (Value.int .i64 N) w):=by
 have:=a.len;have:=a.many;have⟨L,e⟩:=eX N;rw[<-e];have b:=aD a f e;clear a f e;go_enter func61,ntmps61;go_wp2
 go_loopw [7] (fun i wr=>∃k,k<=N/\i= .int .i64 k/\Below w w wr) (fun i _=>F-(intOf i).toNat)
 case atStart=>exact⟨0,aQ _,rfl,aP _ _⟩
 obtain⟨k,t,rfl,e⟩:=hrel;have⟨n,q⟩:=eX wr;subst q;by_cases r:k<F
 .obtain⟨x,f⟩:∃x,F[k]? =some x:=⟨_,aI r⟩
  obtain⟨o,p,rfl,u,g⟩:=b.b.row e f;have y:(k:Int)<F:=by omega
  have a:=aD e f g;clear e f g;have:=a.a.size;by_cases s:k<N
  .have z:(x.C== -1)=true:=by
    have⟨v,j⟩:=b.a.init k s;rw[a.b]at j;injection j with j;rw[j];rfl
   go_wp2_with (first|(refine l4 rfl (.tmp 10) rfl o (p+k*7) rfl x a.C (h:=?_))|(refine l6 rfl (.tmp 4) (.tmp 11) rfl x rfl rfl (h:=?_);intro l f g;have C:l.cell? n=some x.C:=f.C 0 (dr rfl);have m:=H g;clear f g))
   go_roundw
   case rel=>exact⟨k+1,by omega,by go_num,a.a.t (m.y.m a.a.size)⟩
   simp[intOf];omega
  obtain rfl:k=N:=by omega
  have:(x.C== -1)=false:=by
   have:=b.a.C a.b
   grind
  go_wp2_with (first|(refine l4 rfl (.tmp 10) rfl o (p+k*7) rfl x a.C (h:=?_))|(refine l6 rfl (.tmp 4) (.tmp 11) rfl x rfl rfl (h:=?_);intro l f g;have:l.cell? n=some x.C:=f.C 0 (dr rfl);have m:=H g;clear f g))
  go_ret;exact⟨by rw[b.C];rfl,a.a.t (m.y.m a.a.size)⟩
 have:¬(k:Int)<F:=by omega
 have a:=H e;clear e;obtain rfl:k=N:=by omega
 go_wp2;go_ret;exact⟨by rw[b.C,show F.length=k by omega];rfl,a.y⟩
end
section
attribute [local irreducible] Code.wp wpList Oper.wp wpQuiet
def Et:List (Option IntKind):=[some .i64,some .u8,some .u8,some .u8,some .u8,some .u8,some .u8]
def Yk(v):(Lit.int .u8 (Y v)).wf=true:=by
 have:=iW v;have:=pC v;simp[Lit.wf,IntKind.min,IntKind.max,IntKind.bits,IntKind.signed];omega
def xn(v:UInt8):Fl.qQ (some .u8) v=some (.int .u8 (Y v)):=by simp[Fl.qQ,Yk]
def ac1(k)(c:k<256)(v)(w):(binOp .neq 143 (J 7 (a6 (kP k v))) (.agg #[.int .i64 (-1),.int .u8 2,.int .u8 k,v,.int .u8 0,.int .u8 0,.int .u8 0])).run prog w= .ok (.bool false) w:=by
 have:J 7 (a6 (kP k v))=#[.int .i64 (-1),.int .u8 2,.int .u8 k,.int .u8 (Y v),.int .u8 0,.int .u8 0,.int .u8 0]:=by
  rw[show J 7 (a6 (kP k v))=#[.int .i64 (-1),.int .u8 (Y 2),.int .u8 (Y (UInt8.ofNat k)),.int .u8 (Y v),.int .u8 (Y 0),.int .u8 (Y 0),.int .u8 (Y 0)]from rfl,qD k c];rfl
 have a:∃l,Fl.dU Et (J 7 (a6 (kP k v))).toList=some l:=by
  refine⟨[.int .i64 (-1),.int .u8 (Y 2),.int .u8 (Y (UInt8.ofNat k)),.int .u8 (Y v),.int .u8 (Y 0),.int .u8 (Y 0),.int .u8 (Y 0)],?_⟩;show Fl.dU Et [.int .i64 (-1),.int .u8 (Y 2),(UInt8.ofNat k),v,.int .u8 (Y 0),.int .u8 (Y 0),.int .u8 (Y 0)]=_;simp[Fl.dU,Et,xn];rfl
 obtain⟨l,a⟩:=a;have⟨b,e,_,f⟩:=Fl.zh (P:=prog) w (t:=143) (ks:=Et) (d:=5) (m:=5) (by kernel_rfl) (by kernel_rfl) (dr rfl) (by kernel_rfl) (by kernel_rfl) a a
 grind
def YK{ops}{rest}{op}{a}{w}{Q}(c:op.guard=none)(x)(f:op.op= .load 143 x)(b)(g:a.eval x= .pointer b)
 (e)(i:aj w b 143 7 (a6 e))(h:wpList prog ops Q rest (a.put op.dst (J 7 (a6 e))) w):wpList prog ops Q (op::rest) a w:=by
 refine nF c _ x f b 0 7 7 143 (a6 e) g i (dr rfl) _ iy rfl eH ?_;simp only[cK];exact h
def Yt(A:Option Addr)(c N:Nat)(o:List aN)(w:World)(e:zJ N o)(J:eG w A o):
 Calls prog 62 #[.slice A o.length c,.int .i64 N] w (Rs (.bool true) w):=by
 have:=e.len;have:=e.many;have:=e.iG;have L:=aA e J;clear e J;go_enter func62,ntmps62;go_wp2
 go_loopw [5,6,11] (fun t m i wr=>∃(k M:Nat)(T:Int),k<=o/\i= .int .i64 k/\t= .int .i64 T/\m= .int .i64 M/\M<=256/\(k<=N->T=0/\M=0)/\(N<=k->uO N (o.drop k) T M)/\Below w w wr) (fun _ _ i _=>o-(intOf i).toNat)
 case atStart=>exact⟨0,0,0,aQ _,rfl,rfl,rfl,by omega,fun _=>⟨rfl,rfl⟩,fun h=>(by have:=L.a.pg;omega),aP _ _⟩
 obtain⟨k,M,T,ap,rfl,rfl,rfl,ar,Q,R,u⟩:=hrel;have⟨j,ak⟩:=eX wr;subst ak;by_cases ah:k<o
 .obtain⟨x,e⟩:∃x,o[k]? =some x:=⟨_,aI ah⟩
  obtain⟨W,X,rfl,au,g⟩:=L.B.row u e;have av:(k:Int)<o:=by omega
  have f:=bM u e g Q R;clear u e g Q R;have:=f.a.size;by_cases al:k<N
  .have aw:(k:Int)<N:=by omega
   have⟨v,e⟩:=L.a.init k al;obtain rfl:x=kP k v:=aR (f.b.s.t e);clear e;have:IntKind.u8.wrap (k:Int)=(k:Int):=by simp[IntKind.wrap,IntKind.bits,IntKind.signed];omega
   have:=ac1 k (by omega) v
   go_wp2_with (first|(refine l4 rfl (.tmp 14) rfl W (X+k*7) rfl (kP k v) f.c (h:=?_))|(refine l6 rfl (.tmp 8) (.tmp 15) rfl (kP k v) rfl rfl (h:=?_);intro g e p;have y:g.cell? ⟨j,3,none⟩=some v:=e.C 3 (dr rfl);have q:=aA e p;clear e p)|(refine YK rfl (.tmp 8) rfl j rfl (kP k v) q.a (h:=?_)))
   go_roundw
   case rel=>
    obtain⟨rfl,rfl⟩:=f.d (by omega);exact⟨k+1,0,0,by omega,by go_num,rfl,rfl,by omega,fun _=>⟨rfl,rfl⟩,fun h=>(by rw[show k+1=N by omega];exact L.a.rest),f.a.t (q.B.m f.a.size)⟩
   simp[intOf];omega
  have:¬(k:Int)<N:=by omega
  have ai:=f.E (by omega);rw[zD ah,(bL.1 f.b).2]at ai;obtain⟨e1,e2,y,aj,P⟩:=ai;have⟨l,aa⟩:=eX x.C;rw[<-aa]at e1 e2 y P;have:¬l<T:=by omega
  have:decide ((4:Int)<=l)=false:=gX (by omega);have ab:Y x.ev.pos=(x.ev.pos:Int):=rfl;have⟨r,ad⟩:=eX x.ev.pos.toNat;have:r<256:=by rw[ad];exact x.ev.pos.toNat_lt
  rw[<-ad]at ab y P;have⟨am,ae⟩:=eX (Y x.ev.pos);have⟨af,C⟩:=eX (Y x.ev.kind);have⟨E,s⟩:=eX (Y x.ev.loc);have⟨an,ag⟩:=eX (Y x.ev.val);have J:af=1/\E<N\/af=2/\E<N\/af=3/\E=0/\an=0:=by
   obtain(⟨a,b⟩|⟨a,b⟩)|⟨a,b,c⟩:=aj
   .exact .inl ⟨by rw[C,a];rfl,by rw[s];unfold Y;omega⟩
   .exact .inr (.inl ⟨by rw[C,a];rfl,by rw[s];unfold Y;omega⟩)
   exact .inr (.inr ⟨by rw[C,a];rfl,by rw[s,b];rfl,by rw[ag,c];rfl⟩)
  have n:=dC P aa ae C s ag;have ao:am=r:=by rw[ae];exact ab
  have I:r=if l=T then M else 0:=y;have:0<=E:=by rw[s];exact iW _
  subst ao;clear e2 y aj P aa ae C s ag ad ab;have s:l=T/\r=M\/T<l/\r=0:=by
   by_cases h:l=T
   .rw[aq h]at I;exact .inl ⟨h,I⟩
   rw[O h]at I;exact .inr ⟨by omega,I⟩
  clear I e1;obtain⟨rfl,y⟩|⟨rfl,y⟩|⟨rfl,rfl,rfl⟩:=J
  all_goals
   try have:¬(N:Int)<=E:=by omega
   obtain⟨rfl,rfl⟩|⟨C,rfl⟩:=s
   .have I:¬l<l:=by omega
    go_wp2_with (first|(refine l4 rfl (.tmp 14) rfl W (X+k*7) rfl x f.c (h:=?_))|(refine l6 rfl (.tmp 8) (.tmp 15) rfl x rfl rfl (h:=?_);intro g e p;have P:g.cell? j=some l:=(e.C 0 (dr rfl)).t (by rw[n.b];rfl);have aa:g.cell? ⟨j,1,none⟩=some (.int .u8 _):=(e.C 1 (dr rfl)).t (cg (fun z=>some (Value.int .u8 z)) n.d.s);have ab:g.cell? ⟨j,2,none⟩=some (.int .u8 _):=(e.C 2 (dr rfl)).t (cg (fun z=>some (Value.int .u8 z)) n.e.s);have ad:g.cell? ⟨j,3,none⟩=some (.int .u8 _):=(e.C 3 (dr rfl)).t (cg (fun z=>some (Value.int .u8 z)) n.F.s);have ae:g.cell? ⟨j,6,none⟩=some (.int .u8 _):=(e.C 6 (dr rfl)).t (cg (fun z=>some (Value.int .u8 z)) n.c.s);have q:=aA e p;clear e p))
    exact⟨⟨k+1,r+1,l,by omega,by go_num,rfl,by go_num,by omega,fun h=>(by omega),fun _=>n.a,f.a.t (q.B.m f.a.size)⟩,by simp[intOf];omega⟩
   have:=C
   go_wp2_with (first|(refine l4 rfl (.tmp 14) rfl W (X+k*7) rfl x f.c (h:=?_))|(refine l6 rfl (.tmp 8) (.tmp 15) rfl x rfl rfl (h:=?_);intro g e p;have:g.cell? j=some l:=(e.C 0 (dr rfl)).t (by rw[n.b];rfl);have:g.cell? ⟨j,1,none⟩=some (.int .u8 _):=(e.C 1 (dr rfl)).t (cg (fun z=>some (Value.int .u8 z)) n.d.s);have:g.cell? ⟨j,2,none⟩=some (.int .u8 _):=(e.C 2 (dr rfl)).t (cg (fun z=>some (Value.int .u8 z)) n.e.s);have:g.cell? ⟨j,3,none⟩=some (.int .u8 _):=(e.C 3 (dr rfl)).t (cg (fun z=>some (Value.int .u8 z)) n.F.s);have:g.cell? ⟨j,6,none⟩=some (.int .u8 _):=(e.C 6 (dr rfl)).t (cg (fun z=>some (Value.int .u8 z)) n.c.s);have q:=aA e p;clear e p))
   exact⟨⟨k+1,1,l,by omega,by go_num,rfl,by go_num,by omega,fun h=>(by omega),fun _=>n.a,f.a.t (q.B.m f.a.size)⟩,by simp[intOf];omega⟩
 have:¬(k:Int)<o:=by omega
 have f:=H u;clear u Q R;go_wp2;go_ret;exact⟨rfl,f.y⟩
end
def LP(a:List aN)(f:Rl.Rows):Prop:=∀i x,a[i]? =some x->(x.ev.kind≠1->Rl.dR a.length f i=0#64)/\
 (x.ev.kind=1->∃(s:Nat)(y:aN),Rl.dR a.length f i=Bv.bit s/\s<48/\a[s]? =some y/\y.ev.kind=2/\y.ev.loc=x.ev.loc/\y.ev.val=x.ev.val)
section
attribute [local irreducible] Code.wp wpList Oper.wp wpQuiet
def GJ(X)(ve){r}(a:r<6):J 49 (fun i=>xG X ve (1+49*r+i))=ar X.n (X.row r):=by
 rw[nN];refine gP fun i b=>?_;unfold dz;cases i with
 |zero=>exact EE X ve r a
 |succ i=>rw[O (by omega),show 1+49*r+(i+1)=1+49*r+1+i by omega,xe X ve r i a (by omega)];rfl
def acL{ops}{rest}{op}{a}{w}{Q}(c:op.guard=none)(x)(e:op.op= .load 53 x)(b o r)(f:r<6)(g:o=1+49*r)(X)(ve)(i:a.eval x= .pointer (some ⟨b,o,none⟩))
 (j:aj w b 60 333 (xG X ve))(h:wpList prog ops Q rest (a.put op.dst (ar X.n (X.row r))) w):wpList prog ops Q (op::rest) a w:=by
 subst g;refine nF c _ x e b _ 49 333 60 (xG X ve) i j (by omega) _ gT rfl pq ?_;rw[GJ X ve f];exact h
def Oj(s)(h:s<64):(Bv.bit s==0#64)=false:=by
 rw[qd];intro e;have a:(Bv.bit s).getLsbD s=false:=by grind
 rw[Bv.ik s s h]at a
 grind
def P4{s}(h:s<64):Bs.low (Bv.bit s)=s:=
 Bx.Xe (by rw[Bv.ik s s h];simp) (fun i a=>by rw[Bv.ik s i h];simp;omega)
attribute [local go_sem] Bv.fE Bv.fO Bv.fA Bv.fL Bv.fC Bv.gn Bv.fP Bv.fQ
def adm(b:Nat)(m:XE)(f:List aN)(A:Option Addr)(c:Nat)(w:World)(ap:m.n=(f.length:Int))(aq:f.length<=48)(a:aj w b 60 333 (xG m (.slice A f.length c)))(l:eG w A f)(n:Rl.Ok f.length (m.row 1))(o:LP f (m.row 1))(g:bh w):
 Calls prog 65 #[.pointer b] w (Rs true w):=by
 have ag:=g.lt;have r:=Gq f (m.row 1) w n g ag;have P:=a.C 0 (dr rfl);rw[nV]at P;have ab:=a.lt;have I:=aY a l o g;clear a l n o g;have:=jk;go_enter func65,ntmps65
 go_wp2_with ((refine acL rfl (.tmp 12) rfl b 50 1 (dr rfl) rfl m _ rfl I.a (h:=?_)))
 refine r.st fun q a=>?_;clear r;have Q:=aA a (aG.new q 0 E);clear a;have:=(Q.a.C (p:=b) ab).t P;have⟨ar,au⟩:=eX q.1.size
 go_wp2_with ((refine fY rfl (.tmp 3) (.tmp 14) rfl q f 0 (Rl.dR f (m.row 1)) E rfl rfl Q.B ?_;intro n g l;have a:=Q.a.t ((fJ l).m Q.a.size);have:=(a.C (p:=b) ab).t P;have z:=aA g a;clear g l a))
 go_loopw [20] (fun i wr=>∃k:Nat,k<=f/\i= .int .i64 k/\Below w w wr/\aG wr q f (Rl.dR f (m.row 1))) (fun i _=>f-(intOf i).toNat)
 case atStart=>exact⟨0,aQ _,rfl,z.B,z.a⟩
 obtain⟨k,av,rfl,g,r⟩:=hrel;have⟨J,an⟩:=eX wr;subst an;by_cases ao:k<f
 .obtain⟨x,L⟩:∃x,f[k]? =some x:=⟨_,aI ao⟩
  obtain⟨t,M,rfl,aw,R⟩:=I.b.row g L;have ax:(k:Int)<f:=by omega
  have⟨ad,ae⟩:=I.c k x L;have ah:=g.size;have T:=r.lt;by_cases v:x.ev.kind=1
  .have⟨s,y,n,ay,o,C,N,W⟩:=ae v;have⟨_,_,X,_,aa⟩:=I.b.row g o;obtain⟨rfl,rfl⟩:t=_/\M=_:=by injection X with e;injection e with e1 e2 _;exact⟨e1,e2⟩
   have:=(bL.1 o).1;have⟨S,l⟩:=eX (Bv.bit s);have af:nO S=(s:Int):=by unfold nO;rw[l,O (by have:=Oj s (by omega);rw[qd]at this;exact this),P4 (by omega)]
   have z:lS S=true:=by unfold lS;rw[l,Oj s (by omega)];rfl
   rw[<-l]at n;have a:=J0 g r L R aa v C N W n l af z;clear g r L R aa v o C N W ad ae n l af z X
   go_wp2_with (first|(refine l4 rfl (.tmp 23) rfl t (M+k*7) rfl x a.d (h:=?_))|(refine l6 rfl (.tmp 5) (.tmp 24) rfl x rfl rfl (h:=?_);intro z C n;have N:z.cell? ⟨J,1,none⟩=some (.int .u8 1):=(C.C 1 (dr rfl)).t (by rw[show a6 x 1= .int .u8 (Y x.ev.kind)from rfl,a.f];rfl);have cr:z.cell? ⟨q,1+k,none⟩=some (.int .u64 (Bv.U S)):=((a.b.Z n T).row k (by omega)).t (by rw[a.j]);have o:=I.D.Z (a.a.t (n.m ah)) ag;have l:=aD C n o;clear C n o))
   have o:=rD S z l.C l.C.lt;rw[a.l,a.M]at o;have az:(Bv.U S !=Bv.U (Bv.bit s))=false:=by rw[<-a.k];simp
   have:(s:Int)<f:=by omega
   refine o.st fun af W=>?_;clear o cr N;have N:=l.b.t (W.m l.b.size);have X:=a.a.t (N.m ah);have:=(X.C (p:=b) ab).t P;have aa:=l.a.Z W l.a.lt;have ai:=aa.lt;have o:=aY X (fun j u ak=>(N.C (p:=⟨t,M+s*7+j,none⟩) (by show t<J;omega)).t (a.e j u ak)) aa N;clear W N X aa;have⟨ak,N⟩:=eX (Y x.ev.loc);have⟨al,X⟩:=eX (Y x.ev.val);have W:=aA N X;clear N X
   go_wp2_with (first|(refine l4 rfl (.tmp 52) rfl t (M+s*7) rfl y o.b (h:=?_))|(refine l6 rfl (.tmp 9) (.tmp 53) rfl y rfl rfl (h:=?_);intro N X aa;have:N.cell? ⟨af,1,none⟩=some (.int .u8 2):=(X.C 1 (dr rfl)).t (by rw[show a6 y 1= .int .u8 (Y y.ev.kind)from rfl,a.g];rfl);have:N.cell? ⟨af,2,none⟩=some (.int .u8 ak):=(X.C 2 (dr rfl)).t (by rw[show a6 y 2= .int .u8 (Y y.ev.loc)from rfl,a.h,W.a]);have:N.cell? ⟨af,3,none⟩=some (.int .u8 al):=(X.C 3 (dr rfl)).t (by rw[show a6 y 3= .int .u8 (Y y.ev.val)from rfl,a.i,W.B]);have:N.cell? ⟨J,2,none⟩=some (.int .u8 ak):=((o.c.Z aa ai).C 2 (dr rfl)).t (by rw[W.a];rfl);have:N.cell? ⟨J,3,none⟩=some (.int .u8 al):=((o.c.Z aa ai).C 3 (dr rfl)).t (by rw[W.B];rfl);have am:=H aa;clear X aa))
   exact⟨⟨k+1,by omega,by go_num,o.a.t (am.y.m o.a.size),a.b.Z (o.D.t (am.y.m o.D.size)) T⟩,by simp[intOf];omega⟩
  have:(Y x.ev.kind !=1)=true:=by
   rw[bne_iff_ne];intro e;exact v (lQ.1 (e.t (show(1:Int)=Y 1 from rfl)))
  have a:=aY g r R (ad v);clear g r L R v ad ae
  go_wp2_with (first|(refine l4 rfl (.tmp 23) rfl t (M+k*7) rfl x a.c (h:=?_))|(refine l6 rfl (.tmp 5) (.tmp 24) rfl x rfl rfl (h:=?_);intro z C n;have:z.cell? ⟨J,1,none⟩=some x.ev.kind:=C.C 1 (dr rfl);have:z.cell? ⟨q,1+k,none⟩=some (.int .u64 (Bv.U 0#64)):=((a.b.Z n T).row k (by omega)).t (by rw[a.D]);have l:=H n;clear C n))
  exact⟨⟨k+1,by omega,by go_num,a.a.t (l.y.m a.a.size),a.b.Z l.y T⟩,by simp[intOf];omega⟩
 have:¬(k:Int)<f:=by omega
 have a:=H g;clear g r;go_wp2;go_ret;exact⟨rfl,a.y⟩
end
def mC(a:List aN)(q:UInt8):Nat->BitVec 64
 |0=>0#64
 |k+1=>if(a[k]?).any fun x=>x.ev.kind==q then mC a q k|||Bv.bit k else mC a q k
def ae8{F}{q}{k}{x:aN}(h:F[k]? =x)(a:x.ev.kind=q):mC F q (k+1)=mC F q k|||Bv.bit k:=by rw[mC,h];simp[a]
def abp{F}{q}{k}{x:aN}(h:F[k]? =x)(a:x.ev.kind≠q):mC F q (k+1)=mC F q k:=by rw[mC,h];simp[a]
def uY(f:Rl.Rows):Nat->BitVec 64
 |0=>0#64
 |k+1=>uY f k|||f k
def Jw(b:List aN)(c data A a:Rl.Rows):Prop:=∀i x,b[i]? =some x->
 (data i|||A i|||a i≠0#64->x.ev.kind=1/\(data i|||a i)&&& ~~~(mC b 2 b.length)=0#64/\(data i|||A i|||a i)&&& ~~~(c i)=0#64)/\
 (a i≠0#64->∃(s:Nat)(y:aN),a i=Bv.bit s/\s<48/\b[s]? =some y/\y.ev.loc=x.ev.loc/\(uY a i).getLsbD s=false)
section
attribute [local irreducible] Code.wp wpList Oper.wp wpQuiet
attribute [local go_sem] Bv.fE Bv.fO Bv.fA Bv.fL Bv.fC Bv.gn Bv.fP Bv.fQ Bv.yl Bv.Aj Bv.wZ Bv.xO
def DN{w}{b}{X}{ve}(a:aj w b 60 333 (xG X ve))(r i)(c:r<6)(e:i<48):w.cell? ⟨b,49*r+2+i,none⟩=some (.int .u64 (Bv.U (X.row r i))):=by
 rw[a.C _ (by omega),show 49*r+2+i=1+49*r+1+i by omega,xe X ve r i c e]
def Zh(b:Nat)(l:XE)(f:List aN)(A:Option Addr)(c:Nat)(w:World)(ay:f.length<=48)(a:aj w b 60 333 (xG l (.slice A f.length c)))(m:eG w A f)(n:Jw f (l.row 0) (l.row 3) (l.row 4) (l.row 5))(g:bh w):
 Calls prog 67 #[.pointer b] w (Rs true w):=by
 have ap:=g.lt;have ae:=a.C 0 (dr rfl);rw[nV]at ae;have af:=a.lt;have L:=aY a m n g;clear a m n g;go_enter func67,ntmps67;go_wp2
 go_loopw [3,19] (fun s i wr=>∃k:Nat,k<=f/\i= .int .i64 k/\s= .int .u64 (Bv.U (mC f 2 k))/\Below w w wr) (fun _ i _=>f-(intOf i).toNat)
 case atStart=>exact⟨0,aQ _,rfl,rfl,aP _ _⟩
 obtain⟨k,aq,rfl,rfl,g⟩:=hrel;have⟨o,R⟩:=eX wr;subst R;by_cases T:k<f
 .obtain⟨x,m⟩:∃x,f[k]? =some x:=⟨_,aI T⟩
  obtain⟨q,t,rfl,ar,E⟩:=L.b.row g m;have az:(k:Int)<f:=by omega
  have X:=g.size;have⟨S,I⟩:=eX (mC f 2 k);rw[<-I];by_cases J:x.ev.kind=2
  .have n:=ae8 m J;rw[<-I]at n;have a:=dC g m E J n I;clear g m E J n I
   go_wp2_with (first|(refine l4 rfl (.tmp 22) rfl q (t+k*7) rfl x a.c (h:=?_))|(refine l6 rfl (.tmp 6) (.tmp 23) rfl x rfl rfl (h:=?_);intro P u z;have N:P.cell? ⟨o,1,none⟩=some (.int .u8 2):=(u.C 1 (dr rfl)).t (by rw[show a6 x 1= .int .u8 (Y x.ev.kind)from rfl,a.d];rfl);have r:=H z;clear u z))
   exact⟨⟨k+1,by omega,by go_num,by rw[a.e],a.a.t (r.y.m a.a.size)⟩,by simp[intOf];omega⟩
  have n:=abp m J;rw[<-I]at n;have au:(Y x.ev.kind==2)=false:=by
   rw[qd];intro e;exact J (lQ.1 (e.t (show(2:Int)=Y 2 from rfl)))
  have a:=dC g m E J n I;clear g m E J n I
  go_wp2_with (first|(refine l4 rfl (.tmp 22) rfl q (t+k*7) rfl x a.c (h:=?_))|(refine l6 rfl (.tmp 6) (.tmp 23) rfl x rfl rfl (h:=?_);intro P u z;have N:P.cell? ⟨o,1,none⟩=some x.ev.kind:=u.C 1 (dr rfl);have r:=H z;clear u z))
  exact⟨⟨k+1,by omega,by go_num,by rw[a.e],a.a.t (r.y.m a.a.size)⟩,by simp[intOf];omega⟩
 obtain rfl:k=f:=by omega
 have:¬(f:Int)<f:=by omega
 have⟨aB,av⟩:=eX o;subst av;have⟨aw,I⟩:=eX (mC f 2 f);rw[<-I];have:=(g.C (p:=b) af).t ae;have ag:=aA I g;clear I g;go_wp2
 go_loopw [4,37] (fun s i wr=>∃k:Nat,k<=f/\i= .int .i64 k/\s= .int .u64 (Bv.U (uY (l.row 5) k))/\Below w w wr) (fun _ i _=>f-(intOf i).toNat)
 case atStart=>exact⟨0,aQ _,rfl,rfl,ag.B⟩
 obtain⟨k,aq,rfl,rfl,g⟩:=hrel;have⟨o,R⟩:=eX wr;subst R;by_cases T:k<f
 .obtain⟨x,m⟩:∃x,f[k]? =some x:=⟨_,aI T⟩
  obtain⟨q,t,rfl,ar,E⟩:=L.b.row g m;have au:(k:Int)<f:=by omega
  have X:=g.size;have⟨I,Q⟩:=eX (uY (l.row 5) k);rw[<-Q];have⟨d1,d2⟩:=L.c k x m;have⟨D,aa⟩:=eX (l.row 3 k);have⟨C,ab⟩:=eX (l.row 4 k);have⟨M,J⟩:=eX (l.row 5 k);have⟨ah,ad⟩:=eX (l.row 0 k);rw[<-aa,<-ab,<-J]at d1;rw[<-J,<-Q]at d2;rw[<-ad,<-ag.a]at d1;have ai:∀W,Below o o W->W.cell? ⟨b,149+k,none⟩=some (.int .u64 (Bv.U D))/\W.cell? ⟨b,198+k,none⟩=some (.int .u64 (Bv.U C))/\W.cell? ⟨b,247+k,none⟩=some (.int .u64 (Bv.U M))/\W.cell? ⟨b,2+k,none⟩=some (.int .u64 (Bv.U ah))/\W.cell? b=some (.slice (some ⟨q,t,none⟩) f c):=fun W ax=>by
   have N:=L.a.Z (g.t (ax.m X)) af;exact⟨(DN N 3 k (dr rfl) (by omega)).t (by rw[aa]),(DN N 4 k (dr rfl) (by omega)).t (by rw[ab]),(DN N 5 k (dr rfl) (by omega)).t (by rw[J]),(by have:=DN N 0 k (dr rfl) (by omega);rw[show 49*0+2+k=2+k by omega]at this;exact this.t (by rw[ad])),(N.C 0 (dr rfl)).t (by rw[nV])⟩
  have n:uY (l.row 5) (k+1)=I|||M:=by rw[Q,J];rfl
  have a:=dH g m E ai n d1 d2;clear g m E ai n d1 d2 aa ab J ad Q
  go_wp2_with (first|(refine l4 rfl (.tmp 40) rfl q (t+k*7) rfl x a.c (h:=?_))|(refine l6 rfl (.tmp 8) (.tmp 41) rfl x rfl rfl (h:=?_);intro P u z;have r:=aA u z;clear u z))
  have⟨e1,e2,z,_,_⟩:=a.d _ r.B;have E:=fun d m=>bO e1 d m;have J:=fun d m=>bO e2 d m;have g3:=fun d m=>bO z d m;have:(k:Int)<48:=by omega
  have:(0:Int)<=(k:Int):=by omega
  refine bV (by kernel_rfl) ?_
  repeat(first|go_big_quiet_step (fail)|quiet_step (fail))
  refine qn fun ai u=>?_;have n:=aA (r.B.t (u.m r.B.size)) (r.a.Z u r.a.lt);clear u E J g3 e1 e2 z;have⟨_,_,_,aC,aD⟩:=a.d _ n.a;by_cases u:D|||C|||M=0#64
  .have aE:(D|||C|||M==0#64)=true:=by rw[u];rfl
   have E:I|||M=I:=by
    have:M=0#64:=by
     apply NZ;intro j aF;have:=cg (fun v:BitVec 64=>v.getLsbD j) u;simp at this⊢;exact this.2
    rw[this];simp
   have z:=H E;clear u E;go_wp2;exact⟨⟨k+1,by omega,by go_num,by rw[a.e,z.y],a.a.t (n.a.m a.a.size)⟩,by simp[intOf];omega⟩
  have:=qd.2 u;have⟨r,J,P⟩:=a.f u;have:ai.cell? ⟨o,1,none⟩=some (.int .u8 1):=(n.B.C 1 (dr rfl)).t (by rw[show a6 x 1= .int .u8 (Y x.ev.kind)from rfl,r];rfl);have:((D|||M)&&& ~~~aw !=0#64)=false:=by rw[J];rfl
  have:((D|||C|||M)&&& ~~~ah !=0#64)=false:=by rw[P];rfl
  have:=H u;clear u r J P
  go_wp2_with fail
  have P:=L.D.Z (a.a.t (n.a.m X)) ap;have u:=rD M ai P P.lt;by_cases r:M=0#64
  .have J:lS M=false:=by unfold lS;rw[r];rfl
   have E:I|||M=I:=by rw[r];simp
   rw[J]at u;have z:=H E;clear r J E P;refine u.st fun aa E=>?_;have Q:=H E;clear u E;go_wp2;exact⟨⟨k+1,by omega,by go_num,by rw[a.e,z.y],a.a.t ((n.a.t (Q.y.m n.a.size)).m a.a.size)⟩,by simp[intOf];omega⟩
  have⟨s,y,ab,aG,ad,ak,al⟩:=a.G r;have am:nO M=(s:Int):=by unfold nO;rw[O r,ab,P4 (by omega)]
  have J:lS M=true:=by unfold lS;rw[qd.2 r];rfl
  have:(Bv.U M !=Bv.U (Bv.bit s))=false:=by rw[<-ab];simp
  have:Bv.G I s=false:=al;have:=(bL.1 ad).1;have:(s:Int)<f:=by omega
  have⟨_,_,an,_,ao⟩:=L.b.row a.a ad;obtain⟨rfl,rfl⟩:q=_/\t=_:=by injection an with e;injection e with e1 e2 _;exact⟨e1,e2⟩
  rw[am,J]at u;have z:=aA ak ao;clear r ab ad ak al am J P ao an;refine u.st fun aa E=>?_;have r:=n.a.t (E.m n.a.size);have⟨_,_,_,_,f5⟩:=a.d _ r;have f6:aa.cell? ⟨o,2,none⟩=some x.ev.loc:=(n.B.Z E n.B.lt).C 2 (dr rfl);have f7:aa.cell? ⟨q,t+s*7+2,none⟩=some (.int .u8 (Y x.ev.loc)):=(r.C (p:=⟨q,t+s*7+2,none⟩) (by show q<o.1.size;omega)).t ((z.B 2 (a6 y 2) rfl).t (by rw[show a6 y 2= .int .u8 (Y y.ev.loc)from rfl,z.a]));have J:=fun d m=>bO f5 d m;have P:=fun d m=>bO f6 d m;have ab:=fun d m=>bO f7 d m;have Q:=H r;clear u E r f5 f6 f7
  go_wp2_with fail
  refine bV (by kernel_rfl) ?_
  repeat(first|go_big_quiet_step (fail)|quiet_step (fail))
  refine qn fun E r=>?_;have u:=H (Q.y.t (r.m Q.y.size));clear r J P ab;go_wp2;exact⟨⟨k+1,by omega,by go_num,by rw[a.e],a.a.t (u.y.m a.a.size)⟩,by simp[intOf];omega⟩
 have:¬(k:Int)<f:=by omega
 have a:=H g;clear g;go_wp2;go_ret;exact⟨rfl,a.y⟩
end
end Go.Proofs.YtilhngjecfdgpaaGreatDoor
