/- Part 3 of 9 of the proof of seisintop.TopPSO (theorem topPSO.card, at the end of the last part), its names and blanks shortened by a program to fit a claim's bound; it holds the texts Cj Ck Cl Cm Cn Eg Eh Ei Ej Fb Fc Fd Fe Ff Ga Gb Gc Gd Ge Gf Gg, one behind the other. -/
import Derived.Test.YtilhngjecfdgpaaGreatDoorTb
set_option linter.all false
set_option linter.defProp false
set_option linter.unusedVariables false
set_option linter.unusedSimpArgs false
set_option maxRecDepth 100000
set_option maxHeartbeats 16000000
namespace Go.Proofs.YtilhngjecfdgpaaGreatDoor
open Go.RowKit Go.Shelf Go.Proofs.Tryz
def jY(w:World):World->Prop:=fun W=>Below w w W
def pW(w):Bo.Inv (jY w) none:=
 ⟨fun W z h=>Below.alloc h h.size z,fun _ _ _ _ h _ _ _=>(by cases h),fun _ _ h _=>(by cases h)⟩
def wQ{P}{ops}{w0:World}{Q}{R:World->Prop}{a}{rest}{o}(b:Value->World->Prop)(c:Value->Prop)(f)(args)
 (p:Bo.gY o=true)(q:Region.wanted o (yielded ops a.tmps)=true)(r:∀W W',R W->Below W W W'->R W')(g:∀v W W',b v W->Below W W W'->b v W')(s:∀v W,b v W->c v)(l:∃v,c v)
 (g:∀W,(execOp a.eval o).run P W= .ok (.enter f args) W)(t:∀W,Below w0 w0 W->R W->Calls P f args W fun e W'=>∃v,e= .returned v/\b v W'/\Below W W W')
 (h:∀v,c v->Bo.walk P ops (jY w0) none Q rest (fun W=>R W/\b v W) (a.put o.dst v)):Bo.walk P ops (jY w0) none Q (o::rest) R a:=
 Bo.ym (fun v i=>c v/\i=fun W=>R W/\b v W) p q
   (fun v i ⟨_,e⟩ W z j=>by
     have:=ba W z
     grind)
   (l.elim fun v g=>⟨v,_,g,rfl⟩)
   (fun W l j=>by
     rw[g W];exact⟨rfl,(t W l j).m fun e w ⟨v,u,n,m⟩=>⟨v,_,u,⟨s _ _ n,rfl⟩,(l).t (m.m l.size),⟨r _ _ j m,n⟩,Bo.Kept.gz m⟩⟩)
   (fun v i ⟨j,e⟩=>by grind)
def bo{w:World}{base n}{e}{size}{v}{xs}(h:w.ownsRow base e size v n xs)(a:0<size):∃A c,v= .slice A n c:=by
 obtain⟨b,f⟩|⟨g,i,j,l,_⟩:=h.2
 .grind
 grind
def Jq{P:Program}{ops}{w0}{Q}{R}{a}{rest}{o}(e:Bo.gY o=false)(f:Region.wanted o (yielded ops a.tmps)=true)(ty)(x)(j:o.op= .load ty x)
 (b off m n)(t)(g)(l:a.eval x= .pointer (some ⟨b,off,none⟩))(c:aj w0 b t n g)(p:off+m<=n)(d:TypeDesc)(q:P.underlying ty=d)(r:d.isRow=true)(u:(P.info? ty).map (·.size)=m)
 (h:Bo.walk P ops (jY w0) none Q rest R (a.put o.dst (J m fun i=>g (off+i)))):Bo.walk P ops (jY w0) none Q (o::rest) R a:=
 Bo.Fc e f (fun W s=>by
   unfold execOp;simp only[j,l,Instr.loadAt,Instr.sureAddr,eD,eZ,eY,(qu (P:=P) W b off ty _ d ((c.Z s c.lt).range off m p) q r (by grind))];rfl) h
def afG(A)(n c)(w):(binOp .eql 23 (.slice A n c) nS).run prog w= .ok A.isNone w:=by
 simp only[binOp];simp[Op.equal,Op.maxDepth,KU w 9999 23 5 A n c 0 0 underlying23]
def I0:(prog.info? 5).map (fun i=>(i.zero,i.size,i.bytes))=some (some (.int .u8 0),1,1):=by kernel_rfl
def R2(ad)(n c)(vs)(w)(i:vs.length=n*1)(b:∀j u,vs[j]? =some u->w.cell? (ad.add j)=some u/\ad.block<w.1.size)(l:∀u∈vs,u.oneCell'=true)(a:n<=1000000):
 Calls prog 52 #[.slice (some ad) n c] w fun e f=>∃v,e= .returned v/\f.ownsRow w.1.size 5 1 v n vs/\Below w.1.size w f:=by
 have⟨m,o,p,q,r⟩:=eQ I0;have g:=LM (base:=w.1.size) (e:=5) (size:=1) w #[] 0 (av _) (by omega) rfl;have h:∀j u,vs[j]? =some u->(w.alloc (.cells #[] 5)).cell? (ad.add j)=some u:=fun j u s=>by
  rw[yA _ _ _ (show(ad.add j).block≠w.1.size from xp (by have:=(b j u s).2;unfold Addr.add;split<;>exact this))]
  grind
 have:=afG (some ad) n c;have a:=aA g h;clear g h b;go_enter func52,ntmps52
 go_wp2_with (at_builtin;refine qJ _ rfl _ _ 23 rfl w.1.size 5 m (.int .u8 0) 1 1 underlying23 o p q r rfl (dr rfl) _ 0 [] rfl a.a ad n c vs rfl i a.B l (by unfold maxLen;omega) (by omega) (by simp) ?_;intro h x b g t)
 rw[cK,gG]at b;have h:=aA b ((ba w (.cells #[] 5)).b g (by simp) (fun k e=>(a.a.lt k e).1));clear b g t;go_wp2;go_ret;exact⟨_,rfl,h.a,h.B⟩
def YY(A)(n c)(w):(binOp .eql 48 (.slice A n c) nS).run prog w= .ok A.isNone w:=by
 simp only[binOp];simp[Op.equal,Op.maxDepth,KU w 9999 48 143 A n c 0 0 underlying48]
def Tv:(prog.info? 143).map (fun i=>(i.zero,i.size,i.bytes))=some (some (.agg #[.int .i64 0,.int .u8 0,.int .u8 0,.int .u8 0,.int .u8 0,.int .u8 0,.int .u8 0]),7,16):=by kernel_rfl
def Nj(ad)(n c)(vs)(w)(i:vs.length=n*7)(b:∀j u,vs[j]? =some u->w.cell? (ad.add j)=some u/\ad.block<w.1.size)(l:∀u∈vs,u.oneCell'=true)(a:n<=1000000):
 Calls prog 59 #[.slice (some ad) n c] w fun e f=>∃v,e= .returned v/\f.ownsRow w.1.size 143 7 v n vs/\Below w.1.size w f:=by
 have⟨m,o,p,q,r⟩:=eQ Tv;have g:=LM (base:=w.1.size) (e:=143) (size:=7) w #[] 0 (av _) (by omega) rfl;have h:∀j u,vs[j]? =some u->(w.alloc (.cells #[] 143)).cell? (ad.add j)=some u:=fun j u s=>by
  rw[yA _ _ _ (show(ad.add j).block≠w.1.size from xp (by have:=(b j u s).2;unfold Addr.add;split<;>exact this))]
  grind
 have:=YY (some ad) n c;have a:=aA g h;clear g h b;go_enter func59,ntmps59
 go_wp2_with (at_builtin;refine qJ _ rfl _ _ 48 rfl w.1.size 143 m (.agg #[.int .i64 0,.int .u8 0,.int .u8 0,.int .u8 0,.int .u8 0,.int .u8 0,.int .u8 0]) 7 16 underlying48 o p q r rfl (dr rfl) _ 0 [] rfl a.a ad n c vs rfl i a.B l (by unfold maxLen;omega) (by omega) (by simp) ?_;intro h x b g t)
 rw[cK,gG]at b;have h:=aA b ((ba w (.cells #[] 143)).b g (by simp) (fun k e=>(a.a.lt k e).1));clear b g t;go_wp2;go_ret;exact⟨_,rfl,h.a,h.B⟩
def ah(e:Ev):List Value:=(List.range 7).map (eS e)
def tu(l:List Ev):List Value:=l.flatMap ah
def JW(r):∀m,m<=24->(List.range (m*7)).map (fun j=>R r (19+j))=tu ((List.range m).map r.ev)
 |0,_=>rfl
 |m+1,h=>by
  rw[I7,List.range_add,kx,JW r m (by omega),@List.range_succ m,kx];unfold tu;rw[oI];congr 1;simp only[nR,pR,uz,Hz,kL,pN];exact Br fun j a=>by
   show R r (19+(m*7+j))=_;rw[<-mq];exact FD r m j (by omega) (fS.1 a)
def Ij(e)(j):(eS e j).oneCell'=true:=by unfold eS;split<;>rfl
structure Path where
 F:List Ev
 data:List (Nat×Nat)
 A:List (Nat×Nat)
 dP:List (Nat×Nat)
 L:Nat->UInt8
def eA(r:aK):Path where
 F:=(List.range r.many).map r.ev
 data:=pk ((List.range r.many).map fun i=>(r.ev i).data)
 A:=pk ((List.range r.many).map fun i=>(r.ev i).A)
 dP:=pk ((List.range r.many).map fun i=>(r.ev i).ff)
 L:=r.L
section
def JT(f:Nat->UInt8):List Value:=(List.range 8).map fun i=> .int .u8 (Y (f i))
def mY(a b c e:Value)(f:Nat->UInt8):List Value:=[a,b,c,e]++JT f
def iH(W:World)(base:Nat)(p:Path)(cs:List Value):Prop:=
 ∃a b c e,cs=mY a b c e p.L/\W.ownsRow base 143 7 a p.F.length (tu p.F)/\W.ownsRow base 275 2 b p.data.length (jA p.data)/\
  W.ownsRow base 275 2 c p.A.length (jA p.A)/\W.ownsRow base 275 2 e p.dP.length (jA p.dP)
def iH.Z{W W'}{base}{p}{cs}(h:iH W base p cs)(f:Below W W W'):iH W' base p cs:=by
 obtain⟨g,i,o,r,e,u,w,y,A⟩:=h;exact⟨g,i,o,r,e,bP u f,bP w f,bP y f,bP A f⟩
def LD{W}{b}(o)(g:Ev->BitVec 32){r}(h:bz W b r)(e:r.many<=24)(a:∀k,k<24->R r (o+k)= .int .u32 (V (g (r.ev k))))(c:o+24<=259):
 DV W (some ⟨b,o,none⟩) ((List.range r.many).map fun i=>g (r.ev i)):=by
 intro f;refine⟨b,o,rfl,h.lt,fun i j=>?_⟩;have c:i<r.many:=by grind
 rw[aj.C h (o+i) (by omega),a i (by omega)];congr 3;rw[bj,dG,pU c];rfl
def Sk:prog.underlying 54=some (.array 8 5):=by kernel_rfl
def Mj:(prog.info? 54).map (·.size)=some 8:=by kernel_rfl
def xQ:(prog.info? 135).map (·.size)=some 12:=by kernel_rfl
def Gg:prog.underlying 135=some (.struct (prog.fieldsOf 135)):=by kernel_rfl
attribute [local go_sem] CF
def aa2(b:Nat)(r:aK)(w:World)(l:bz w b r)(p:r.many<=24)(a:bh w):
 Calls prog 97 #[.pointer b] w fun e E=>∃cs:List Value,e= .returned (.agg cs.toArray)/\iH E w.1.size (eA r) cs/\Below w w E:=by
 have m:=l.alloc (.cells #[nS,nS,nS,nS,.int .u8 0,.int .u8 0,.int .u8 0,.int .u8 0,.int .u8 0,.int .u8 0,.int .u8 0,.int .u8 0] 135);have q:aj (w.alloc (.cells #[nS,nS,nS,nS,.int .u8 0,.int .u8 0,.int .u8 0,.int .u8 0,.int .u8 0,.int .u8 0,.int .u8 0,.int .u8 0] 135)) w 135 12 (fun i=>((mY nS nS nS nS (fun _=>0)).toArray)[i]!):=aj.dq _ _ _ _ _ rfl;have f:=ba w (.cells #[nS,nS,nS,nS,.int .u8 0,.int .u8 0,.int .u8 0,.int .u8 0,.int .u8 0,.int .u8 0,.int .u8 0,.int .u8 0] 135);have x:(0:Int)<=(r.many:Int):=by omega
 have y:(r.many:Int)<=24:=by omega
 have z:¬(24:Int)<(r.many:Int):=by omega
 have s:=a.Z f a.lt;clear l a;go_enter func97,ntmps97
 go_wp2_with fail
 generalize w.alloc (.cells #[nS,nS,nS,nS,.int .u8 0,.int .u8 0,.int .u8 0,.int .u8 0,.int .u8 0,.int .u8 0,.int .u8 0,.int .u8 0] 135)=w0 at*
 have a:=aY m q f s;clear m f q s;refine Bo.j2 (jY w0) (pW w0) (show Below _ _ _ from⟨rfl,rfl,rfl,av _,fun _ _=>rfl⟩) 41 (by kernel_rfl) (by kernel_rfl) ?_;simp only[st1]
 repeat(refine Bo.i rfl (fun W f=>by have m:=(a.a.Z f a.a.lt).C 18 (dr rfl);rw[BO]at m;simp[execOp,go_sem,m,x,y,z];rfl) ?_;simp only[o])
 refine wQ (fun v W=>W.ownsRow w 143 7 v (eA r).F.length (tu (eA r).F)) (fun v=>∃A c,v= .slice A (eA r).F.length c) 59 #[.slice (some ⟨b,19,none⟩) r.many 24] rfl rfl (fun W W' h l=>trivial) (fun v W W' h l=>bP h l) (fun v W h=>bo h (dr rfl)) ⟨_,none,0,rfl⟩ (fun W=>by simp[execOp,go_sem])
  (fun W f _=>by
    have C:=a.a.Z f a.a.lt;have h:=Nj ⟨b,19,none⟩ r.many 24 (tu ((List.range r.many).map r.ev)) W (by rw[<-JW r r.many p];simp) (fun j u q=>by
     rw[<-JW r r.many p]at q;exact⟨by rw[eV];exact aj.range C 19 (r.many*7) (by omega) j u q,C.lt⟩) (fun u q=>by
     unfold tu at q;have⟨e,_,q⟩:=mR.1 q;obtain⟨j,_,rfl⟩:=bX.1 q;exact Ij e j) (by omega)
    refine h.m fun e W' ⟨v,q,s,t⟩=>⟨v,q,?_,t⟩
    have F:(eA r).F.length=r.many:=by unfold eA;simp
    rw[F];exact ft s (aO a.c.size f.size)) (fun ak aa=>?_)
 simp only[o]
 repeat(refine Bo.i rfl (fun W f=>by have m:=(a.a.Z f a.a.lt).C 18 (dr rfl);rw[BO]at m;simp[execOp,go_sem,m,x,y,z];rfl) ?_;simp only[o])
 refine wQ (fun v W=>W.ownsRow w 275 2 v (eA r).data.length (jA (eA r).data)) (fun v=>∃A c,v= .slice A (eA r).data.length c) 167 #[.slice (some ⟨b,187,none⟩) r.many 24] rfl rfl (fun W W' h l=>⟨trivial,bP h.2 l⟩) (fun v W W' h l=>bP h l) (fun v W h=>bo h (dr rfl)) ⟨_,none,0,rfl⟩ (fun W=>by simp[execOp,go_sem])
  (fun W f _=>by
    have h:=Mn (some ⟨b,187,none⟩) ((List.range r.many).map fun i=>(r.ev i).data) 24 W (by simpa using p) (LD 187 (fun e=>e.data) (a.a.Z f a.a.lt) p (fun k C=>JE r k C) (dr rfl)) (a.D.Z f a.D.lt);rw[cV,pM]at h;exact h.m fun e W' ⟨v,q,s,t⟩=>⟨v,q,ft s (aO a.c.size f.size),t⟩) (fun al ab=>?_)
 simp only[o]
 repeat(refine Bo.i rfl (fun W f=>by have m:=(a.a.Z f a.a.lt).C 18 (dr rfl);rw[BO]at m;simp[execOp,go_sem,m,x,y,z];rfl) ?_;simp only[o])
 refine wQ (fun v W=>W.ownsRow w 275 2 v (eA r).A.length (jA (eA r).A)) (fun v=>∃A c,v= .slice A (eA r).A.length c) 167 #[.slice (some ⟨b,211,none⟩) r.many 24] rfl rfl (fun W W' h l=>⟨⟨trivial,bP h.1.2 l⟩,bP h.2 l⟩) (fun v W W' h l=>bP h l) (fun v W h=>bo h (dr rfl)) ⟨_,none,0,rfl⟩ (fun W=>by simp[execOp,go_sem])
  (fun W f _=>by
    have h:=Mn (some ⟨b,211,none⟩) ((List.range r.many).map fun i=>(r.ev i).A) 24 W (by simpa using p) (LD 211 (fun e=>e.A) (a.a.Z f a.a.lt) p (fun k C=>I5 r k C) (dr rfl)) (a.D.Z f a.D.lt);rw[cV,pM]at h;exact h.m fun e W' ⟨v,q,s,t⟩=>⟨v,q,ft s (aO a.c.size f.size),t⟩) (fun am ad=>?_)
 simp only[o]
 repeat(refine Bo.i rfl (fun W f=>by have m:=(a.a.Z f a.a.lt).C 18 (dr rfl);rw[BO]at m;simp[execOp,go_sem,m,x,y,z];rfl) ?_;simp only[o])
 refine wQ (fun v W=>W.ownsRow w 275 2 v (eA r).dP.length (jA (eA r).dP)) (fun v=>∃A c,v= .slice A (eA r).dP.length c) 167 #[.slice (some ⟨b,235,none⟩) r.many 24] rfl rfl (fun W W' h l=>⟨⟨⟨trivial,bP h.1.1.2 l⟩,bP h.1.2 l⟩,bP h.2 l⟩) (fun v W W' h l=>bP h l) (fun v W h=>bo h (dr rfl)) ⟨_,none,0,rfl⟩ (fun W=>by simp[execOp,go_sem])
  (fun W f _=>by
    have h:=Mn (some ⟨b,235,none⟩) ((List.range r.many).map fun i=>(r.ev i).ff) 24 W (by simpa using p) (LD 235 (fun e=>e.ff) (a.a.Z f a.a.lt) p (fun k C=>E6 r k) (dr rfl)) (a.D.Z f a.D.lt);rw[cV,pM]at h;exact h.m fun e W' ⟨v,q,s,t⟩=>⟨v,q,ft s (aO a.c.size f.size),t⟩) (fun an ae=>?_)
 iterate 3(simp only[o];refine Bo.i rfl (fun W f=>by simp[execOp,go_sem];rfl) ?_)
 simp only[o];refine Jq rfl rfl 54 (.tmp 41) rfl b 1 8 259 200 (R r) rfl a.a (dr rfl) _ Sk rfl Mj ?_;simp only[o];rw[show J 8 (fun i=>R r (1+i))=#[.int .u8 (Y (r.L 0)),.int .u8 (Y (r.L 1)),.int .u8 (Y (r.L 2)),.int .u8 (Y (r.L 3)),.int .u8 (Y (r.L 4)),.int .u8 (Y (r.L 5)),.int .u8 (Y (r.L 6)),.int .u8 (Y (r.L 7))]from rfl];obtain⟨C,F,rfl⟩:=aa;obtain⟨H,I,rfl⟩:=ab;obtain⟨L,M,rfl⟩:=ad;obtain⟨N,O,rfl⟩:=ae;refine Bo.i (v:= .agg (mY (.slice C (eA r).F.length F) (.slice H (eA r).data.length I) (.slice L (eA r).A.length M) (.slice N (eA r).dP.length O) r.L).toArray) rfl (fun W f=>by simp[execOp,go_sem];rfl) ?_;simp only[o];refine Bo.oQ ?_;intro af q l;have s:=a.b.Z q a.b.lt;refine eP rfl 135 (.tmp 2) (.tmp 43) rfl w 0 12 12 _ _ (fun i=>(mY (.slice C (eA r).F.length F) (.slice H (eA r).data.length I) (.slice L (eA r).A.length M) (.slice N (eA r).dP.length O) r.L).toArray[i]!) rfl rfl s (dr rfl) xQ (fun i f=>by obtain _|_|_|_|_|_|_|_|_|_|_|_|i:=i<;>first|rfl|omega) ?_;intro ag P t;have Q:=P.congr fun i f=>by unfold bm;rw[aq ⟨by omega,by omega⟩,ez]
 have T:=(a.c.t ((q).m a.c.size)).b t (aO a.c.size q.size) (fun k e=>by cases e;omega);have m:∀{e:TypeId}{X:Nat}{v:Value}{n:Nat}{xs:List Value},af.ownsRow w e X v n xs->e≠135->ag.ownsRow w e X v n xs:=fun h ah=>h.K t (by
  rcases hv:Value.ownBlock _ with _|g
  .exact .inl rfl
  .refine .inr fun e2=>ah ?_;have⟨c,ao,f⟩:=IG h g hv;cases e2;have ai:=s;rw[ai]at f;injection f with f;injection f with _ f _;exact f.s)
 have f:=dC T Q (m l.1.1.1.2 (dr rfl)) (m l.1.1.2 (dr rfl)) (m l.1.2 (dr rfl)) (m l.2 (dr rfl));clear T Q m P t s l;go_wp2;refine bK (mT rfl _ f.b _ rfl Gg rfl xQ) rfl ?_;exact⟨_,rfl,⟨_,_,_,_,rfl,f.C⟩,f.a⟩
end
def k7(ins:List Ins)(Q:List UInt8):Nat->aK->List aK
 |0,r=>[(fW ins r).1]
 |n+1,r=>if(fW ins r).2 then Q.flatMap fun v=>match ins[(fW ins r).1.pc]? with
   |some x=>k7 ins Q n (bw (fW ins r).1 x v)
   |none=>[]
  else [(fW ins r).1]
def acR{ins}(b:lT ins){r}(a:kW ins r):r.pc<=(fW ins r).1.pc/\((fW ins r).2=true->∃x,ins[(fW ins r).1.pc]? =some x):=by
 have key:∀n(r:aK),kW ins r->ins.length-r.pc<=n->r.pc<=(jt ins n r).1.pc/\((jt ins n r).2=true->∃x,ins[(jt ins n r).1.pc]? =some x):=by
  intro n
  induction n with
  |zero=>intro r a h;exact⟨av _,fun h=>by cases h⟩
  |succ n e=>
   intro r a h;unfold jt;cases c:ins[r.pc]? with
   |none=>exact⟨av _,fun h=>by cases h⟩
   |some x=>
    split
    .grind
    have⟨f,g⟩:=vh 0 b a c
    grind
 exact key _ r a (av _)
def Fb{F}{P:Program}{m}{ops}{rest}{op}{a}{w}{Q}(c:op.guard=none)(ty)(x)(e:op.op= .load ty x)
 (b o)(g:a.eval x= .pointer (some ⟨b,o,none⟩))(cs:List Value)(d:TypeDesc)(i:w.rangeAt b o cs)(j:P.underlying ty=d)(l:d.isRow=true)(n:(P.info? ty).map (·.size)=cs)
 (p:∀f,F.fn f:=by intro f;trivial)(h:wpListIn F m P ops Q rest (a.put op.dst cs.toArray) w):wpListIn F m P ops Q (op::rest) a w:=by
 refine xr c fun K q=>?_;unfold Oper.wpIn;refine⟨fun _ _=>p _,?_⟩;rw[oG F _ _ (by grind)];unfold execOp;simp only[e,g,Instr.loadAt,Instr.sureAddr,eD,eZ,eY,qu w b o ty cs d i j l n];exact q _ _ h
def vT{F}{P:Program}{m'}{ops}{rest}{op}{a}{w}{Q}(c:op.guard=none)(ty)(x)(e:op.op= .load ty x)
 (b o m n)(t)(g)(j:a.eval x= .pointer (some ⟨b,o,none⟩))(l:aj w b t n g)(p:o+m<=n)(d:TypeDesc)(q:P.underlying ty=d)(r:d.isRow=true)(u:(P.info? ty).map (·.size)=m)
 (s:∀f,F.fn f:=by intro f;trivial)(h:wpListIn F m' P ops Q rest (a.put op.dst (J m fun i=>g (o+i))) w):wpListIn F m' P ops Q (op::rest) a w:=
 Fb c ty x e b o j _ d (l.range o m p) q r (by grind) s h
def uL{F}{P:Program}{m'}{ops}{rest}{op}{a}{w}{Q}(j:op.guard=none)(ty)(x y)(l:op.op= .store ty x y)
 (b o m n)(t)(g f)(p:a.eval x= .pointer (some ⟨b,o,none⟩))(q:a.eval y= .agg (J m f))(e:aj w b t n g)(r:o+m<=n)(u:(P.info? ty).map (·.size)=m)(z:∀i,i<m->(f i).oneCell'=true)
 (s:∀f,F.fn f:=by intro f;trivial)(h:∀c,aj c b t n (bm g o m f)->w.grownBy c (some b)->wpListIn F m' P ops Q rest (a.put op.dst undef) c):wpListIn F m' P ops Q (op::rest) a w:=by
 refine xr j fun K c=>?_;unfold Oper.wpIn;refine⟨fun _ _=>s _,?_⟩;rw[oG F _ _ (by grind)];unfold execOp;simp only[l,p,q,Instr.storeAt,Instr.sureAddr,eD,eZ,eY,(run_storeVar_mid (P:=P) w b o ty (J m f) (by rw[dF];exact e.there o m r) (by simp_all) (CU fun v A=>by grind))];exact c _ _ (h (w.setCells b o (J m f).toList) (by rw[sg];exact e.setCells m o f) (vx _ _ _ _))
def pK(W:World)(A:Option Addr)(l:List UInt8):Prop:=
 0<l.length->∃b a,A=some ⟨b,a,none⟩/\b<W.1.size/\∀i x,l[i]? =some x->W.cell? ⟨b,a+i,none⟩=some (.int .u8 (Y x))
def pK.Z{n}{W W'}{A}{l}(h:pK W A l)(f:Below n W W')(w:W<=n):pK W' A l:=by
 intro g;obtain⟨b,off,rfl,o,r⟩:=h g;exact⟨b,off,rfl,aW o f.size,fun i x u=>(f.C (p:=⟨b,off+i,none⟩) (by grind)).t (r i x u)⟩
def IM(w):(zeroValue 200).run prog w= .ok (J 259 (R jL)) w:=by kernel_rfl
def ack:prog.underlying 200=some (.struct (prog.fieldsOf 200)):=by kernel_rfl
def PI:(prog.info? 200).map (·.size)=some 259:=by kernel_rfl
def Mu(r)(i):(R r i).oneCell'=true:=by
 unfold R;split;·rfl
 split;·rfl
 split;·rfl
 split;·rfl
 split;·rfl
 split
 .exact Ij _ _
 split;·rfl
 split<;>rfl
def EU(r:aK)(v:Value)(W:World):Prop:=∃b,v= .pointer (b:Nat)/\bz W b r
abbrev Po(g B:Nat)(xs:List aK)(b:List aK->List Nat->World->Prop)(h:List aK->World->Prop):Prop:=
 ∀m a c x v W1,b a c W1->B<=W1.1.size->a++[x]<+:xs->EU x v W1->YieldAt Fence.wide m prog g #[v] W1 fun e W'=>
    (e= .returned (.bool true)/\∃f,b (a++[x]) f W'/\Rg.fh B c f W1 W')\/(e= .returned (.bool false)/\h (a++[x]) W')
structure AN(B b:Nat)(fp fp':List Nat)(w w':World):Prop where
 size:w.1.size<=w'.1.size
 new:∀k∈fp',k∈fp\/w.1.size<=k
 keep:∀k,B<=k->k<w.1.size->k∉fp->k≠b->w'.1[k]? =w.1[k]?
def CI{B b}{fp}{w w'}(h:w.grownBy w' (some b))(c:B<=b)(f:b∉fp):Rg.Steps B fp w w':=
 ⟨h.os,h.tape,h.output,h.size,fun k a g=>h.block k a (fun e=>by
   grind)⟩
def Sn(lp B)(xs)(ins)(Q)(A D)(ca cd)(J)(Jx)(g:lT ins)(X:Q.length<=1000)
 (l:∀f c W,J f c W->jG W A ins/\pK W D Q/\∀q∈c,q<W.1.size)(p:∀a,A=some a->0<ins.length->a.block<B)(s:∀a,D=some a->a.block<B)
 (u:∀f c W1 i,J f c W1->Rg.Steps B c W1 i->J f c i)(v:Po lp B xs J Jx)
 (r)(b m)(f)(c)(W)(N:kW ins r)(w:f++[(fW ins r).1]<+:xs)(n:J f c W)(z:B<=b)(C:b∉c)(i:bz W b r)(O:(fW ins r).2=false):
  CallsIn Fence.wide m prog 166 #[.pointer (b:Nat),.slice A ins.length ca,.slice D Q.length cd,.func (.yield lp) #[] #[]] W fun e W'=>
   ∃t,e= .returned (.bool t)/\(t=true->∃j,J (f++[(fW ins r).1]) j W'/\AN B b c j W W')/\(t=false->∃q,q<+:xs/\Jx q W'):=by
 have:=g.len;have o:=dH trivial l u v p s g;have E:=bM w n z C i;have x:=R1 b r A ins ca W i N g (l _ _ _ n).1 (fun a e y=>by grind);have:=IM;have:B<=W.1.size:=by have:=i.lt;omega
 clear l u v p s w n i g;refine rM func166 rfl trivial ?_ rfl;simp only[ntmps166,jC,gL,iP,Nat.reduceAdd,Nat.reduceSub,j8,j5,kh,kj,gG,iJ]
 gi_wp2_with fail
 first|refine⟨trivial,fun h=>(by cases h),?_⟩|refine⟨trivial,?_⟩
 refine(dh.2 x).m ?_;rintro e F ⟨rfl,l,g,P⟩;have⟨I,n⟩:=eX (fW ins r).1;rw[O];rw[<-n]at l P;have p:=o.c _ _ _ _ E.b (CI g z C);have R:=g.size;have T:=o.b _ _ _ p;have L:AN B b c c W F:=⟨g.size,fun k h=> .inl h,fun k s u v w=>g.block k u (fun e=>w (by grind))⟩
 clear x;have x:[(fW ins r).1]=[I]:=by rw[n]
 have i:=E.a;rw[x]at i;have⟨fn,tmps,assign,body,M,y⟩:=o.d (m-1) f c I (.pointer (b:Nat)) F p (by omega) i ⟨b,rfl,l⟩;have f:=aD x i L;clear x i L T p l g n
 gi_wp2_with fail
 try(refine⟨fun h=>(by cases h),?_⟩)
 refine y.m ?_;rintro e W3 (⟨rfl,j,g,i⟩|⟨rfl,l⟩)
 .have c:=aA g i;clear g i y M
  gi_wp2
  refine bK (uT rfl _ _ _) rfl ?_;refine⟨true,rfl,fun _=>⟨j,by rw[f.a];exact c.a,⟨aO R c.B.size,fun q g=>?_,fun q s u v w=>(c.B.keep q s (by omega) v).t (f.C.keep q s u v w)⟩⟩,fun h=>by cases h⟩;obtain h|h:=c.B.new q g
  .grind
  omega
 have c:=H l;clear l y M
 gi_wp2
 refine bK (uT rfl _ _ _) rfl ?_;exact⟨false,rfl,fun h=>(by cases h),fun _=>⟨_,f.b,c.y⟩⟩
def UJ(ae B:Nat)(xs:List aK)(ins:List Ins)(Q:List UInt8)(A D:Option Addr)(af ak:Nat)(w:List aK->List Nat->World->Prop)(ag:List aK->World->Prop)(f:lT ins)(ay:Q.length<=1000)
 (z:∀g c W,w g c W->jG W A ins/\pK W D Q/\∀q∈c,q<W.1.size)(C:∀a,A=some a->0<ins.length->a.block<B)(E:∀a,D=some a->a.block<B)
 (X:∀g c W1 l,w g c W1->Rg.Steps B c W1 l->w g c l)(aa:Po ae B xs w ag):
 ∀(k:Nat)(r:aK)(b m:Nat)(g:List aK)(c:List Nat)(W:World),ins.length-r.pc<=k->kW ins r->g++k7 ins Q k r<+:xs->w g c W->B<=b->b∉c->bz W b r->
  CallsIn Fence.wide m prog 166 #[.pointer b,.slice A ins.length af,.slice D Q.length ak,.func (.yield ae) #[] #[]] W fun e W'=>
   ∃t,e= .returned (.bool t)/\(t=true->∃n,w (g++k7 ins Q k r) n W'/\AN B b c n W W')/\(t=false->∃q,q<+:xs/\ag q W'):=by
 intro k
 induction k with
 |zero=>
  intro r b m g c W aF N s l F I o;exact Sn ae B xs ins Q A D af ak w ag f ay z C E X aa r b m g c W N s l F I o (by rw[N8 (by omega)])
 |succ k ab=>
  intro r b m g c W aF N s l F I o;cases P:(fW ins r).2
  .have L:k7 ins Q (k+1) r=[(fW ins r).1]:=by unfold k7;rw[P,O (by simp)]
   rw[L]at s⊢;exact Sn ae B xs ins Q A D af ak w ag f ay z C E X aa r b m g c W N s l F I o P
  have⟨ad,ah⟩:=acR f N;have:=f.len;have y:=dH ab z X aa C E f;have T:=dH s l F I o ad ah;have M:=R1 b r A ins af W o N f (z _ _ _ l).1 (fun a e ai=>by have:=C a e ai;intro e2;injection e2 with e2;omega);have:=IM;have:B<=W.1.size:=by have:=o.lt;omega
  clear ab z X aa C E s l o ad ah f;refine rM func166 rfl trivial ?_ rfl;simp only[ntmps166,jC,gL,iP,Nat.reduceAdd,Nat.reduceSub,j8,j5,kh,kj,gG,iJ]
  gi_wp2_with fail
  first|refine⟨trivial,fun h=>(by cases h),?_⟩|refine⟨trivial,?_⟩
  refine(dh.2 M).m ?_;rintro e aG ⟨rfl,z,s,ah⟩;have⟨f,X⟩:=eX (fW ins r).1;rw[P];rw[<-X]at z ah;have ai:=y.c _ _ _ _ T.b (CI s F I);have:=s.size;have ar:=y.b _ _ _ ai;have ap:AN B b c c W aG:=⟨s.size,fun k h=> .inl h,fun k E C aa al=>s.block k C (fun e=>al (by injection e))⟩
  clear M;have⟨x,ad⟩:=T.G P;rw[<-X]at ad;have L:k7 ins Q (k+1) r=Q.flatMap fun v=>k7 ins Q k (bw f x v):=by
   rw[k7,P,aq rfl,<-X];simp only[ad]
  have⟨ab,am⟩:=eX (fun v=>k7 ins Q k (bw f x v):UInt8->List aK);rw[<-am]at L;have an:=T.a;rw[L]at an;have ao:=T.f;rw[<-X]at ao;have:b<W.1.size:=T.e.lt;have o:=gQ an ap ai z am ad ah L ao;clear L an ap ar ai z s X am ad ah ao
  gi_wp2
  gi_loopw [21] (fun i wr=>∃(j:Nat)(n:List Nat),j<=Q.length/\i= .int .i64 j/\w (g++(Q.take j).flatMap ab) n wr/\AN B b c n W wr/\bz wr b f/\b∉n) (fun i _=>Q.length-(intOf i).toNat)
  case atStart=>exact⟨0,c,aQ _,rfl,by simpa using o.c,o.b,o.d,I⟩
  obtain⟨j,n,aS,rfl,l,X,z,am⟩:=hrel;by_cases aH:j<Q.length
  .have⟨ai,aJ,ap⟩:=y.b _ _ _ l;obtain⟨aT,aU,rfl,aX,ar⟩:=aJ (by omega);obtain⟨v,L⟩:∃v,Q[j]? =some v:=⟨_,aI aH⟩
   have:=ar j v L;have:f.pc<ins.length:=(bL.1 o.f).1;have⟨ah,an,ao,aL,au⟩:=ai (by omega);have:ah<B:=y.e _ ao (by omega);have ad:=jZ wr (.cells (J 259 (R jL)) 200);have av:Q.take (j+1)=Q.take j++[v]:=by rw[jd,L];rfl
   have:=X.size;have:(0:Int)<=(f.pc:Int):=by omega
   have:(f.pc:Int)<ins.length:=by omega
   have:(j:Int)<Q.length:=by omega
   have s:=pn l X z am (z.alloc (.cells (J 259 (R jL)) 200)) ad (BS (au _ _ o.f)) ap av ao;have aw:aj (wr.alloc (.cells (J 259 (R jL)) 200)) wr.1.size 200 259 (R jL):=ad;have aM:=H aw;subst ao;clear l X z am ad ap av L ar au ai aw
   gi_wp2_with (first|(refine vT rfl 200 (.tmp 26) rfl b 0 259 259 200 (R f) rfl s.c (dr rfl) _ ack rfl PI (h:=?_))|(refine uL rfl 200 (.tmp 11) (.tmp 27) rfl wr.1.size 0 259 259 200 (R jL) (R f) rfl rfl aM.y (dr rfl) PI (fun i _=>Mu _ _) (h:=?_);intro L ar au;have ai:bz L wr.1.size f:=bz.nT ar (fun i az=>by unfold bm;rw[aq ⟨by omega,by omega⟩,ez]);have:L.cell? (wr.1.size:Nat)=some (.int .i64 f.pc):=ai.C 0 (dr rfl);have ap:Below wr.1.size wr L:=fJ au;have av:L.rangeAt ah (an+f.pc*10) (aV x).toList:=fun aw u ax=>(ap.C (p:=⟨ah,an+f.pc*10+aw,none⟩) aL).t (s.g aw u ax);have ad:=aD ai ap av;clear ar ai au ap av)|(refine Fb rfl 36 (.tmp 31) rfl ah (an+f.pc*10) rfl (aV x).toList _ ad.C mr rfl kz (h:=?_)))
   first|refine⟨trivial,fun h=>(by cases h),?_⟩|refine⟨trivial,?_⟩
   have ai:=(y.G.ok _ _ o.f).1;have ap:kW ins f:=o.g;refine(dh.2 (SZ wr.1.size f x v L ad.a ai ai.qf ai.iY (by have:=ap.many;omega) (by omega))).m ?_;rintro e ar ⟨rfl,L,au⟩;have⟨az,aN⟩:=vh v y.G ap o.f;have aB:B<=wr.1.size:=by omega
   have av:wr.1.size∉n:=fun h=>by have:=s.h _ h;omega
   have aw:Rg.Steps B n wr ar:=(Rg.Steps.gz ad.b).t (CI au aB av);have aC:=y.c _ _ _ _ s.a aw;have ax:ab v=k7 ins Q k (bw f x v):=by rw[o.e]
   have aE:(g++(Q.take j).flatMap ab)++k7 ins Q k (bw f x v)<+:xs:=by
    refine List.IsPrefix.t ?_ o.a;rw[<-ax];refine⟨(Q.drop (j+1)).flatMap ab,?_⟩;have aO:Q=Q.take (j+1)++Q.drop (j+1):=(yu _ _).s
    conv=>rhs;rw[aO,s.i]
    simp[kZ]
   have M:=y.a (bw f x v) wr.1.size (m-1) _ n ar (by have:=o.I;omega) az aE aC aB av L;rw[<-ax]at M;have:=aw.size;have aP:=aD (show∀q,B<=q->q<wr.1.size->ar.1[q]? =wr.1[q]? from fun q E C=>(au.block q (aW C ad.b.size) (sn (by omega))).t (ad.b.block q C)) L av;clear aw aC aE az L au ai ap aN ax
   gi_wp2_with fail
   first|refine⟨trivial,fun h=>(by cases h),?_⟩|refine⟨trivial,?_⟩
   refine M.m ?_;rintro e ad ⟨t,rfl,ap,au⟩;clear M;cases t
   .have⟨q,M,ai⟩:=au rfl;have L:=aA M ai;clear au ap M ai
    gi_wp2
    refine bK (uT rfl _ _ _) rfl ?_;exact⟨false,rfl,fun h=>(by cases h),fun _=>⟨q,L.y⟩⟩
   have⟨ai,ax,M⟩:=ap rfl;have aN:b<wr.1.size:=by omega
   have aw:∀q,B<=q->q<wr.1.size->q∉n->ad.1[q]? =wr.1[q]?:=fun q E C aa=>(M.keep q E (by omega) aa (by omega)).t (aP.a q E C);have az:bz ad b f:=(aw b F aN s.d).t s.c;have aC:b∉ai:=fun h=>by
    obtain h|h:=M.new b h
    .exact s.d h
    omega
   have aE:AN B b c ai W ad:=⟨by have:=M.size;omega,fun q h=>by
    obtain h|h:=M.new q h
    .exact s.b.new q h
    .exact .inr (by omega),fun q E C aa al=>(aw q E (by omega) (fun aR=>by
     obtain h|h:=s.b.new q aR
     .exact aa h
     .omega)).t (s.b.keep q E C aa al)⟩
   have c:w (g++(Q.take (j+1)).flatMap ab) ai ad:=by
    rw[s.i,oI,<-kZ];simpa using ax
   have L:=aY c aE az aC;clear au ap ax M aw az aC aE c
   gi_wp2
   go_roundw
   case rel=>exact⟨j+1,ai,by omega,by go_num,L.y⟩
   simp[intOf];omega
  have c:j=Q.length:=by omega
  subst c;rw[nH]at l;have L:=aA l X;clear l X z am
  gi_wp2
  refine bK (uT rfl _ _ _) rfl ?_;exact⟨true,rfl,fun _=>⟨n,by rw[o.h];exact L.a,L.B⟩,fun h=>by cases h⟩
def dA(ins:List Ins)(Q:List UInt8):List aK:=k7 ins Q ins.length jL
def KS(ins):kW ins jL:=⟨aQ _,aQ _⟩
def LG(A D)(n m ca cd)(w):
 Calls prog 95 #[.slice A n ca,.slice D m cd] w fun e a=>e= .returned (.func (.func 165) #[] #[.pointer w,.pointer (w+1:Nat)])/\a=(w.alloc (.cells #[.slice A n ca] 32)).alloc (.cells #[.slice D m cd] 23):=by
 go_enter func95,ntmps95;go_wp2;go_ret;exact⟨rfl,rfl⟩
def Zt(A D:Option Addr)(ins:List Ins)(Q:List UInt8)(a:List Nat)(W:World):Prop:=jG W A ins/\pK W D Q/\∀q∈a,q<W.1.size
def IZ(ins)(Q:List UInt8)(A D:Option Addr)(i j b c:Nat)(w0:World)(H:lT ins)(I:Q.length<=1000)(l:Boxed w0 b 32 (.slice A ins i))(f:Boxed w0 c 23 (.slice D Q j))
 (L:∀a,A=some a->0<ins.length->a.block<↑w0)(q:∀a,D=some a->a.block<w0)(m:Nat):
 Rg.mH Fence.wide m prog 165 #[.pointer b,.pointer c] EU (dA ins Q) (Zt A D ins Q) w0:=by
 intro M N O r W g ae s n u w;have:=IM;have o:Boxed W b 32 (.slice A ins i):=(g.block _ l.lt).t l;have p:Boxed W c 23 (.slice D Q j):=(g.block _ f.lt).t f;have y:=o.C;have z:=p.C;have n0:b≠W:=fun e=>by have:=o.lt;omega
 have P:c≠W:=fun e=>by have:=p.lt;omega
 have C:bz (W.alloc (.cells (J 259 (R jL)) 200)) W jL:=aj.new W _ _ _;have E:Rg.Steps W r W (W.alloc (.cells (J 259 (R jL)) 200)):= .gz (ba W _);have F:=UJ M W (dA ins Q) ins Q A D i j N O H I s (fun a e T=>aW (L a e T) g.size) (fun a e=>aW (q a e) g.size) n
  (fun m' T q x v W1 X aa ab ad=>NA m' (u T q x v W1 X aa ab ad)) ins jL W (m-1) [] r _ (Nat.sub_le _ _) (KS ins) (List.prefix_refl _) (n _ _ _ _ w E) (av _) (fun h=>by grind) C
 have:(W.alloc (.cells (J 259 (R jL)) 200)).cell? b=some (.slice A ins i):=by rw[yA _ _ _ n0];exact y
 have:(W.alloc (.cells (J 259 (R jL)) 200)).cell? c=some (.slice D Q j):=by rw[yA _ _ _ P];exact z
 clear s n u w o p C E g l f y z;refine rM func165 rfl trivial ?_ rfl;simp only[ntmps165,jC,gL,iP,Nat.reduceAdd,Nat.reduceSub,j8,j5,kh,kj,gG,iJ]
 gi_wp2_with fail
 generalize W.alloc (.cells (J 259 (R jL)) 200)=W1 at*
 gi_wp2_with fail
 first|refine⟨trivial,fun h=>(by cases h),?_⟩|refine⟨trivial,?_⟩
 refine F.m ?_;rintro e o ⟨t,rfl,g,l⟩;clear F;have n:=aA g l;clear g l
 gi_wp2
 refine FF (ju rfl _ _ _) rfl ?_;refine⟨⟨_,rfl⟩,?_⟩;cases t
 .exact .inr (n.B rfl)
 have⟨q,f,_⟩:=n.a rfl;exact .inl ⟨q,f⟩
end Go.Proofs.YtilhngjecfdgpaaGreatDoor
namespace Go
def VZ{P}{lr n}{b:Oper}{a}{w}{K K'}{Q}(j:∀c,b.op≠ .defer c)(g:∀a w,K a w->K' a w)(h:b.wp P a w K Q):b.wpIn (Fence.wide.inRound lr) n P a w K' Q:=by
 refine⟨fun _ _=>trivial,?_⟩;rw[oG (Fence.wide.inRound lr) _ _ j];unfold Oper.wp at h;generalize (execOp a.eval b).run P w=r at h;cases r with
 |ok x i=>
  cases x with
  |value v=>exact g _ _ h
  |skip=>exact g _ _ h
  |defer d=>exact g _ _ h
  |enter f args=>exact⟨fun h=>(by cases h),KC lr (dh.2 (Calls.m h fun e i l=>by
   grind))⟩
  |row r xs=>exact⟨fun h=>(by cases h),fun c cs _=>let⟨v,i,r,s⟩:=(h) c cs;⟨v,i,g _ _ r,stepsIn_wide.2 s⟩⟩
  |_=>exact(h:False).elim
 |halt x i=>
  cases x with
  |panic v=>exact h
  |_=>exact(h:False).elim
def Hq{P}{lr n}{md}{ops}{Q}(e:∀(i:Nat)(f:Oper),ops[i]? =f->∀c,f.op≠ .defer c)(j:¬LetsOut Q):∀(g:Nat)(l:Array Bool)(a:Act)(w:World),
 wpAny P md ops Q g l a w->wpAnyIn (Fence.wide.inRound lr) n P md ops Q g l a w
 |0,_,_,_,h=>h
 |g+1,l,a,w,h=>⟨h.1,fun i p=>by
   have b:=h.2 i p;unfold wpOp at b;unfold wpOpIn;cases m:ops[i]? with
   |none=>rw[m]at b;exact Hq e j g _ _ _ b
   |some f=>
    rw[m]at b;simp only[]at b⊢;split
    .rename_i o;rw[aq o]at b;obtain b|b:=b
     .exact VZ (e i f m) (fun a w h=>Hq e j g _ a w h) b
     grind
    .rename_i o;rw[O o]at b;exact⟨fun _ _=>trivial,Hq e j g _ _ _ b⟩⟩
def Jo(a:Oper):Bool:=match a.op with
 | .defer _=>false
 |_=>true
def yh{P}{id lr n}{l:List Oper}{Q}{a}{w}(b:P.follows .mixedOrders=true)(f:l.all Jo=true)(g:¬LetsOut Q)
 (h:wpAny P .any l.toArray Q l.toArray.size (Array.replicate l.toArray.size false) a {w with drawn:=w.drawn+1}):(Code.region id l.toArray true).wpIn (Fence.wide.inRound lr) n P Q a w:=
 Dl b (Hq (fun i j m c e=>by
  have o:=mw.1 f j (cB (by simpa using m));unfold Jo at o
  grind) g _ _ _ _ h)
def aa4{P}{id lr n}{l}{Q}{a}{w}(f:P.follows .mixedOrders=true)(g:l.all Jo=true)(i:¬LetsOut Q)(e:Region.lexB .any l.toArray=true)
 (h:wpQuiet P l.toArray (fun b=>∃p:Regrown,b=Sort.grow (redrawn w p.d) p.os) (fun c=>∀b,(∃p:Regrown,b=Sort.grow (redrawn w p.d) p.os)->Q .normal c b) l a):(Code.region id l.toArray true).wpIn (Fence.wide.inRound lr) n P Q a w:=by
 refine yh f g i ?_;simp only[Region.lexB,cH]at e;have j:(fun b=>∃p:Regrown,b=Sort.grow (redrawn w p.d) p.os) {w with drawn:=w.drawn+1}:=⟨⟨w.drawn+1,#[]⟩,by rw[Sort.grow_empty];rfl⟩
 refine wpAny_of_quiet (Q:=fun c=>∀b,(∃p:Regrown,b=Sort.grow (redrawn w p.d) p.os)->Q .normal c b) (fun _ b m h=>h b m) _ _ _ _ j ?_;have:=wpAnyQ_lex (C:=fun b=>∃p:Regrown,b=Sort.grow (redrawn w p.d) p.os) (md:= .any) e.1 l 0 (Array.replicate l.toArray.size false) a (by simp) (by grind) (by omega);simpa using this
end Go
namespace Go.Proofs.YtilhngjecfdgpaaGreatDoor
open Go.RowKit Go.Shelf Go.Proofs.Tryz
def acG{ins}{Q}(g:lT ins):∀(k:Nat)(r:aK),kW ins r->∀x∈k7 ins Q k r,kW ins x:=by
 have c:∀n(r:aK),kW ins r->kW ins (jt ins n r).1:=by
  intro n
  induction n with
  |zero=>intro r h;exact h
  |succ n e=>
   intro r h;unfold jt;cases a:ins[r.pc]? with
   |none=>exact h
   |some x=>
    simp only[];split
    .exact h
    exact e _ (vh 0 g h a).1
 intro k
 induction k with
 |zero=>intro r h x a;unfold k7 at a;simp at a;subst a;exact c _ _ h
 |succ k e=>
  intro r h x a;unfold k7 at a;split at a
  .have⟨v,_,b⟩:=mR.1 a;cases f:ins[(fW ins r).1.pc]? with
   |none=>rw[f]at b;cases b
   |some i=>rw[f]at b;exact e _ (vh v g (c _ _ h) f).1 x b
  simp at a;subst a;exact c _ _ h
def QU{ins}{Q}(a:lT ins){x}(b:x∈dA ins Q):x.many<=24:=by
 have h:=acG a _ _ (KS ins) x b;have:=h.many;have:=h.pc;have:=a.len;omega
def uD(r:aK)(k v:Nat):Bool:=(List.range k).any fun i=>(r.ev i).kind==2&&(r.ev i).val.toNat==v
def rJ(rs:List aK)(v:Nat):Bool:=rs.any fun r=>uD r r.many v
def oL(rs:List aK)(k:Nat):List UInt8:=((List.range k).filter (rJ rs)).map UInt8.ofNat
def oX(rs:List aK):List UInt8:=oL rs 256
def Yz(rs)(k):oL rs (k+1)=oL rs k++(if rJ rs k then [UInt8.ofNat k]else []):=by
 unfold oL;rw[jh,oh,kx]
 grind
def IQ(rs)(k):(oL rs k)<=k:=by
 unfold oL
 grind
def aeL(rs)(r)(v):rJ (rs++[r]) v=(rJ rs v||uD r r.many v):=by unfold rJ;simp
def NG(r)(k v):uD r (k+1) v=(uD r k v||((r.ev k).kind==2&&(r.ev k).val.toNat==v)):=by unfold uD;rw[jh,List.any_append];simp
section
def gM(l:List UInt8):List Value:=l.map fun x=> .int .u8 (Y x)
structure zT(w:World)(pre:List aK)(fp:List Nat)(W:World):Prop where
 da:Boxed W w.1.size 23 nS
 ok:Boxed W (w.1.size+1) 4 (.bool false)
 wr:aj W (w.1.size+2) 189 256 (fun i=> .bool (rJ pre i))
 lV:Boxed W (w.1.size+3) 3 (.int .i64 pre.length)
 y:Below w w W
 none:fp=[]
 len:pre.length<=4096
structure qT(w:World)(pre:List aK)(x:aK)(b k n5:Nat)(W wr:World):Prop where
 da:Boxed wr w.1.size 23 nS
 ok:Boxed wr (w.1.size+1) 4 (.bool false)
 iV:aj wr (w.1.size+2) 189 256 (fun i=> .bool (rJ pre i||uD x k i))
 lV:Boxed wr (w.1.size+3) 3 (.int .i64 (pre.length+1:Nat))
 y:Below w w wr
 run:bz wr b x
 keep:∀q,n5<=q->q<W.1.size->wr.1[q]? =W.1[q]?
 size:W.1.size<=wr.1.size
def qT.Z{w}{pre}{x}{b k n5}{W wr w2}(h:qT w pre x b k n5 W wr)(f:Below wr wr w2):qT w pre x b k n5 W w2:=by
 have key:∀{q:Nat}{t:TypeId}{v:Value},Boxed wr q t v->Boxed w2 q t v:=fun h=>(f.block _ h.lt).t h;exact⟨key h.da,key h.ok,h.iV.Z f h.iV.lt,key h.lV,h.y.t (f.m h.y.size),h.run.Z f h.run.lt,fun q i g=>(f.block q (aW g h.size)).t (h.keep q i g),aO h.size f.size⟩
def qT.DA{w}{pre}{x}{b k n5}{W wr}(h:qT w pre x b k n5 W wr)(f:(x.ev k).kind≠2):qT w pre x b (k+1) n5 W wr:=
 ⟨h.da,h.ok,h.iV.congr (fun i _=>by rw[NG,beq_false_of_ne f,Bc,Bool.or_false]),h.lV,h.y,h.run,h.keep,h.size⟩
def qT.y6{w}{pre}{x}{b k n5}{W wr}(h:qT w pre x b k n5 W wr)(g:(x.ev k).kind=2)(C:w+4<=n5):qT w pre x b (k+1) n5 W (wr.setCell ⟨w+2,(x.ev k).val.toNat,none⟩ (.bool true)):=by
 have f:∀q,q≠w.1.size+2->(wr.setCell ⟨w.1.size+2,(x.ev k).val.toNat,none⟩ (.bool true)).1[q]? =wr.1[q]?:=fun q o=>cP _ _ _ _ o;have r:b≠w.1.size+2:=fun e=>by
  have u:wr.1[b]? =_:=h.run;rw[e,show wr.1[w.1.size+2]? =_ from h.iV]at u
  grind
 refine⟨(f _ (by omega)).t h.da,(f _ (by omega)).t h.ok,(h.iV.set _ _).congr (fun i _=>?_),(f _ (by omega)).t h.lV,h.y.setCell (by grind) _,(f _ r).t h.run,fun q y A=>(f q (by omega)).t (h.keep q y A),by simpa[World.setCell]using h.size⟩;unfold aU;rw[NG,g]
 grind
def Gc(w:World)(L:Nat)(c:Code)(a:List aK)(W:World):Prop:=
 c= .ret/\Boxed W w.1.size 23 nS/\Boxed W (w.1.size+1) 4 (.bool false)/\Below w w W/\4096<L
def Hb{n B}{fp}{w W W'}(h:Below n w W)(c:n<=w)(e:n<=B)(a:Rg.Steps B fp W W'):Below n w W':=
 ⟨a.os.t h.os,a.tape.t h.tape,a.output.t h.output,aO h.size a.size,fun k b=>(a.block k (aW (aW b c) h.size) (.inl (by omega))).t (h.block k b)⟩
def zT.steps{w}{B:Nat}{pre}{fp}{W W'}(h:zT w pre fp W)(i:w+4<=B)(f:Rg.Steps B fp W W'):zT w pre fp W':=by
 have key:∀{b:Nat}{t:TypeId}{v:Value},b<B->Boxed W b t v->Boxed W' b t v:=fun g h=>(f.block _ h.lt (.inl g)).t h;exact⟨key (by omega) h.da,key (by omega) h.ok,(f.block _ h.wr.lt (.inl (by omega))).t h.wr,key (by omega) h.lV,Hb h.y (av _) (by omega) f,h.none,h.len⟩
def Gc.put{w}{L l:Nat}{c}{pre}{W}{o'}(h:Gc w L c pre W)(f:w+4<=l):Gc w L c pre (W.putObj l o'):=
 ⟨h.1,(dX (by omega)).t h.2.1,(dX (by omega)).t h.2.2.1,h.2.2.2.1.b (eC W l o') h.2.2.2.1.size (fun k e=>by grind),h.2.2.2.2⟩
def Io{x}{v}(W)(l)(a g:Obj)(c:W.1[l]? =a)(i:a.isCells=false)(h:EU x v W):EU x v (W.putObj l g):=by
 obtain⟨b,rfl,f⟩:=h;refine⟨b,rfl,(dX (fun e=>?_)).t f⟩;subst e;rw[f]at c;cases c;cases i
def yt{P}{fn}{p q:Tmp}{t1 t2}(h:fn.results=#[.cell p t1,.cell q t2])(a:∀w,(isAgg t1).run P w= .ok false w)(e:∀w,(isAgg t2).run P w= .ok false w)(tmps)(w)(b c:Nat)(v u)
 (l:tmps.getD p undef= .pointer b)(m:tmps.getD q undef= .pointer c)(f:w.cell? b=some v)(g:w.cell? c=some u):
 (results fn tmps).run P w= .ok (.tuple #[v,u]) w:=by
 have i:tmps[p]?.getD undef= .pointer b:=by simp_all
 have j:tmps[q]?.getD undef= .pointer c:=by simp_all
 simp[results,h,i,j,asAddr,loadVar,eD,a,e,go_sem,f,g]
attribute [local go_sem] Oper.semAt_some
def agM:prog.underlying 189=some (.array 256 4):=by kernel_rfl
def acs:(prog.info? 189).map (·.size)=some 256:=by kernel_rfl
def ae9(w)(cs)(off)(v:Value)(h:cs[off]? =v):(part 4 cs off).run prog w= .ok v w:=by
 have a:(isAgg 4).run prog w= .ok false w:=by kernel_rfl
 simp[part,eD,a,h]
def ZA(g)(k:Nat)(a:k<256)(w):(Instr.index 189 (J 256 g) (.int .i64 k)).run prog w= .ok (g k) w:=by
 have b:(sizeOf 4).run prog w= .ok 1 w:=by kernel_rfl
 unfold Instr.index;simp[go_sem,b,(ae9 w (J 256 g) k (g k) (Es a))];rw[aq (by omega),Es a];rfl
def aeY(w):(zeroValue 189).run prog w= .ok (J 256 fun _=> .bool false) w:=by kernel_rfl
def YH(ins:List Ins)(Q:List UInt8)(A D:Option Addr)(C F:Nat)(w:World)(f:lT ins)(aJ:Q.length<=1000)(g:jG w A ins)(ao:pK w D Q)(j:∀a,A=some a->0<ins.length->a.block<w.1.size)(m:∀a,D=some a->a.block<w.1.size):
 Calls prog 53 #[.slice A ins.length C,.slice D Q.length F] w fun e az=>
  ∃v,e= .returned (.tuple #[v,.bool (decide ((dA ins Q).length<=4096))])/\((dA ins Q).length<=4096->az.ownsRow w.1.size 5 1 v (oX (dA ins Q)).length (gM (oX (dA ins Q))))/\Below w.1.size w az:=by
 have⟨aK,ak,aL,aM,aN⟩:=eQ I0;have:=aeY;have ad:=bM f g ao j m;clear g ao j m f;refine(dh (n:=9)).1 ?_;refine sZ func53 rfl trivial ?_ rfl;simp only[ntmps53,jC,gL,iP,Nat.reduceAdd,Nat.reduceSub,j8,j5,kh,kj,gG,iJ]
 gi_wp2_with fail
 have f:∀j,j=(((w.alloc (.cells #[nS] 23)).alloc (.cells #[.bool false] 4)).alloc (.cells (J 256 fun _=> .bool false) 189)).alloc (.cells #[.int .i64 0] 3)->zT w [] [] j/\j.1.size=w.1.size+4:=by
  rintro j rfl;have aB:=dE (w.alloc (.cells #[nS] 23)) 4 (.bool false);have aC:=aj.new ((w.alloc (.cells #[nS] 23)).alloc (.cells #[.bool false] 4)) 189 256 (fun _=> .bool false);have aE:=dE (((w.alloc (.cells #[nS] 23)).alloc (.cells #[.bool false] 4)).alloc (.cells (J 256 fun _=> .bool false) 189)) 3 (.int .i64 0);simp only[cT,mq,Nat.reduceAdd]at aB aC aE;exact⟨⟨(((dE w _ _).alloc _).alloc _).alloc _,(aB.alloc _).alloc _,aC.alloc _,aE,(((ba w _).alloc (by simp) _).alloc (by simp;omega) _).alloc (by simp;omega) _,rfl,aQ _⟩,by simp⟩
 generalize g:(((w.alloc (.cells #[nS] 23)).alloc (.cells #[.bool false] 4)).alloc (.cells (J 256 fun _=> .bool false) 189)).alloc (.cells #[.int .i64 0] 3)=j;have⟨m,au⟩:=f j g.s;clear f g;refine⟨trivial,?_⟩;refine(dh.2 (LG A D ins.length Q.length C F j)).m ?_;rintro e aV ⟨rfl,rfl⟩;have f:Boxed ((j.alloc (.cells #[.slice A ins.length C] 32)).alloc (.cells #[.slice D Q.length F] 23)) j.1.size 32 (.slice A ins.length C):=(dE j _ _).alloc _;have ae:Boxed ((j.alloc (.cells #[.slice A ins.length C] 32)).alloc (.cells #[.slice D Q.length F] 23)) (j.1.size+1) 23 (.slice D Q.length F):=by
  have:=dE (j.alloc (.cells #[.slice A ins.length C] 32)) 23 (.slice D Q.length F);rwa[cT]at this
 have aF:((j.alloc (.cells #[.slice A ins.length C] 32)).alloc (.cells #[.slice D Q.length F] 23)).1.size=j.1.size+2:=by simp
 have g:zT w [] [] ((j.alloc (.cells #[.slice A ins.length C] 32)).alloc (.cells #[.slice D Q.length F] 23)):=m.steps (B:=j.1.size) (by omega) (.gz ((ba j _).alloc (by simp) _));generalize o:(j.alloc (.cells #[.slice A ins.length C] 32)).alloc (.cells #[.slice D Q.length F] 23)=W5 at*
 rw[au]at f ae aF;have aw:=aD f ae g;clear f ae m g o
 gi_wp2
 refine np.one (n:=9) rfl (by omega) (gf:=165) (lb:=#[.pointer (w.1.size+4:Nat),.pointer (w.1.size+4+1:Nat)]) rfl trivial (gH func165 (by kernel_rfl) rfl) (aP _ _) (zT w) (Gc w (dA ins Q).length) (fun o ap W h=>⟨ad.b.Z h.y (av _),ad.c.Z h.y (av _),fun q aa=>by rw[h.none]at aa;cases aa⟩) (fun c o W l f g I _ _ m=>m.put (by omega)) [] (fun b u=>by cases u) aw.C ?done ?stop (IZ ins Q A D C F (w.1.size+4) (w.1.size+4+1) W5 ad.a aJ aw.a aw.b (fun a e m=>by have:=ad.d a e m;omega) (fun a e=>by have:=ad.E a e;omega) 8) rfl (fun x v W l f g I M L=>Io W l f g I M L) (fun o ap W W' h N=>h.steps (by omega) N) ?a1 ?assign ?body
 case assign=>
  intro l v W K P
  gi_wp2
  exact P
 case body=>
  rintro l o ap x v W m af ⟨b,rfl,s⟩ aW T;have:x.many<=24:=QU ad.a (by obtain⟨t,y⟩:=af;rw[<-y];simp);have ab:=m.lV.C;by_cases g:o.length=4096
  .have d0:((o.length:Int)==4096)=true:=by rw[g];rfl
   have d1:(o.length==4096)=true:=by rw[g];rfl
   have aG:=m.da.C;have aH:=m.ok.C;have f0:=m.da.frozen;have f1:=m.ok.frozen;have ar:4096<(dA ins Q).length:=by have:=af.length_le;simp at this;omega
   have f:=aA m ar;clear m s af T g ar
   gi_wp2
   refine⟨ap,⟨rfl,(f.a.da.set nS).other (by show _≠_;omega) _,(f.a.ok.other (by show _≠_;omega) _).set _,(f.a.y.setCell (p:=(w.1.size:Nat)) (av _) _).setCell (p:=(w.1.size+1:Nat)) (by show w.1.size<=w.1.size+1;omega) _,f.B⟩,⟨by simp[World.setCell],fun b u=> .inl u,fun b I M L=>?_⟩⟩;rw[aF]at I;exact(cP _ _ _ _ (by show b≠w.1.size+1;omega)).t (cP _ _ _ _ (by show b≠w.1.size;omega))
  have d0:((o.length:Int)==4096)=false:=by simp;omega
  have d1:(o.length==4096)=false:=by simp;omega
  have f3:=m.lV.frozen;have al:o.length<4096:=by have:=m.len;omega
  have f:=aY m s al af;clear m s af T g
  gi_wp2_with fail
  have g:∀{t:TypeId}{v:Value}{q:Nat},Boxed W q t v->t≠200->b≠q:=fun{t v q} aa y e=>by
   subst e;have ag:W.1[b]? =_:=f.b;rw[show W.1[b]? =_ from aa]at ag;injection ag with ag;injection ag with _ ag _;exact y ag
  have L:∀q,q≠w.1.size+3->(W.setCell (w.1.size+1+1+1:Nat) (.int .i64 ((o.length:Int)+1))).1[q]? =W.1[q]?:=fun q aa=>cP _ _ _ _ (by show q≠w.1.size+1+1+1;omega);have T:qT w o x b 0 W5.1.size W (W.setCell (w.1.size+1+1+1:Nat) (.int .i64 ((o.length:Int)+1))):=
   ⟨(L _ (by omega)).t f.a.da,(L _ (by omega)).t f.a.ok,aj.congr (show aj _ _ _ _ _ from(L _ (by omega)).t f.a.wr) (fun i _=>by simp[uD]),f.a.lV.set _,f.a.y.setCell (p:=(w.1.size+1+1+1:Nat)) (by show w.1.size<=w.1.size+1+1+1;omega) _,
     (L _ (g f.a.lV (dr rfl))).t f.b,fun q I M=>L q (by omega),by simp[World.setCell]⟩
  generalize W.setCell (w.1.size+1+1+1:Nat) (.int .i64 ((o.length:Int)+1))=W1 at*
  have y:W1.cell? ⟨b,18,none⟩=some (.int .i64 x.many):=T.run.C 18 (dr rfl);have aX:(0:Int)<=(x.many:Int):=by omega
  have:(x.many:Int)<=24:=by omega
  have:¬(24:Int)<(x.many:Int):=by omega
  have d18:=fun d aO=>bO y d aO;have aR:=H T;clear T L g;refine aa4 (by kernel_rfl) (by kernel_rfl) (fun h=>by obtain⟨_,_,h⟩:=h;exact h) (by kernel_rfl) ?_
  repeat(first|go_big_quiet_step (fail)|quiet_step (fail))
  refine qn fun aZ X=>?_;have s:=aR.y.Z X;have aS:=H s;clear s X y d18 ab f3 d0 d1
  gi_wp2
  gi_loopw [31] (fun i wr=>∃k:Nat,k<=x.many/\i= .int .i64 k/\qT w o x b k W5.1.size W wr) (fun i _=>x.many-(intOf i).toNat)
  case atStart=>exact⟨0,aQ _,rfl,aS.y⟩
  obtain⟨k,aT,rfl,T⟩:=hrel;by_cases al:k<x.many
  .have ab:Below wr.1.size wr (wr.alloc (.cells #[.int .i64 0,.int .u8 0,.int .u8 0,.int .u8 0,.int .u8 0,.int .u8 0,.int .u8 0] 143)):=ba wr _;have g:=aD T (show aj (wr.alloc (.cells #[.int .i64 0,.int .u8 0,.int .u8 0,.int .u8 0,.int .u8 0,.int .u8 0,.int .u8 0] 143)) wr.1.size 143 7 (eS jN)from aj.dq _ _ _ _ _ rfl) ab;have:(k:Int)<x.many:=by omega
   have⟨ah,y⟩:=eX (x.ev k).val.toNat;have:Y (x.ev k).val=(ah:Int):=by rw[y];rfl
   have aI:ah<256:=by rw[y];exact(x.ev k).val.toNat_lt
   have aU:=H y;clear T ab y;by_cases ai:(x.ev k).kind=2
   .have e2:=oo (z:=2) rfl ai;have ax:=H ai;clear ai
    gi_wp2_with (first|(refine vT rfl 143 (.tmp 33) rfl b (19+k*7) 7 259 200 (R x) rfl g.a.run (by omega) _ iy rfl eH (h:=?_))|(refine uL rfl 143 (.tmp 10) (.tmp 34) rfl wr.1.size 0 7 7 143 (eS jN) (fun i=>R x (19+k*7+i)) rfl rfl g.b (dr rfl) eH (fun i _=>Mu _ _) (h:=?_);intro ab am an;have y:aj ab wr.1.size 143 7 (eS (x.ev k)):=am.congr (fun i ak=>by unfold bm;rw[aq ⟨by omega,by omega⟩,ez];exact FD x k i (by omega) ak);have e1:ab.cell? ⟨wr.1.size,1,none⟩=some (.int .u8 (Y (x.ev k).kind)):=y.C 1 (dr rfl);have a0:ab.cell? ⟨wr.1.size,3,none⟩=some (.int .u8 (Y (x.ev k).val)):=y.C 3 (dr rfl);have s:=g.a.Z (fJ an);have t1:=s.iV.C ah aI;have t2:=s.iV.free ah;have ay:=H s;clear am an y s))
    go_roundw
    case rel=>exact⟨k+1,by omega,by go_num,by rw[aU.y];exact ay.y.y6 ax.y (by omega)⟩
    simp[intOf];omega
   have:=je (z:=2) rfl ai;have ax:=H ai;clear ai
   gi_wp2_with (first|(refine vT rfl 143 (.tmp 33) rfl b (19+k*7) 7 259 200 (R x) rfl g.a.run (by omega) _ iy rfl eH (h:=?_))|(refine uL rfl 143 (.tmp 10) (.tmp 34) rfl wr.1.size 0 7 7 143 (eS jN) (fun i=>R x (19+k*7+i)) rfl rfl g.b (dr rfl) eH (fun i _=>Mu _ _) (h:=?_);intro ab am an;have y:aj ab wr.1.size 143 7 (eS (x.ev k)):=am.congr (fun i ak=>by unfold bm;rw[aq ⟨by omega,by omega⟩,ez];exact FD x k i (by omega) ak);have:ab.cell? ⟨wr.1.size,1,none⟩=some (.int .u8 (Y (x.ev k).kind)):=y.C 1 (dr rfl);have:ab.cell? ⟨wr.1.size,3,none⟩=some (.int .u8 (Y (x.ev k).val)):=y.C 3 (dr rfl);have s:=g.a.Z (fJ an);have:=s.iV.C ah aI;have:=s.iV.free ah;have ay:=H s;clear am an y s))
   go_roundw
   case rel=>exact⟨k+1,by omega,by go_num,ay.y.DA ax.y⟩
   simp[intOf];omega
  have an:k=x.many:=by omega
  subst an;have g:=H T;clear T
  gi_wp2_with fail
  have h:=g.y;refine⟨[],⟨h.da,h.ok,h.iV.congr (fun i _=>by rw[aeL]),by rw[dc];exact h.lV,h.y,rfl,by rw[dc];simp;omega⟩,⟨h.size,fun q aa=>(by cases aa),fun q I M _=>h.keep q (by omega) M⟩⟩
 case done=>
  rintro D ap W ao m s P;have ar:=m.len;have aG:=m.da.C;have aH:=m.ok.C;have f0:=m.da.frozen;have f1:=m.ok.frozen;have f:=aA m s;clear m s
  gi_wp2_with (refine vT rfl 189 (.tmp 6) rfl (w.1.size+1+1) 0 256 256 189 (fun i=> .bool (rJ (dA ins Q) i)) rfl f.a.wr (dr rfl) _ agM rfl acs (h:=?_))
  have⟨E,y⟩:=eX (dA ins Q);rw[<-y]at f⊢;have T:=H y;clear y ar
  gi_loopw [11,43] (fun v i wr=>∃k:Nat,k<=256/\i= .int .i64 k/\wr.ownsRow W.1.size 5 1 v (oL E k).length (gM (oL E k))/\Below W.1.size W wr) (fun _ i _=>256-(intOf i).toNat)
  case atStart=>exact⟨0,aQ _,rfl,gI _ _ _ _,aP _ _⟩
  obtain⟨k,aT,rfl,m,u⟩:=hrel;by_cases al:k<256
  .have:=fun w=>ZA (fun i=> .bool (rJ E i)) k al w;have:(k:Int)<256:=by omega
   have aa:=IQ E k;have N:=Yz E k;have:IntKind.u8.wrap (k:Int)=(k:Int):=by simp[IntKind.wrap,IntKind.bits,IntKind.signed];omega
   have au:=u.size;cases ab:rJ E k
   .rw[ab,O (by simp),kL]at N;have g:=aD m u N;clear m u N
    gi_wp2
    go_roundw
    case rel=>exact⟨k+1,by omega,by go_num,by rw[g.C];exact g.a,g.b⟩
    simp[intOf];omega
   rw[ab,aq rfl]at N;have g:=aD m u N;clear m u N
   gi_wp2_with (gi_at_builtin;refine wpListIn_append_own _ rfl _ _ 23 rfl W.1.size 5 aK (.int .u8 0) 1 1 underlying23 ak aL aM aN rfl (dr rfl) _ _ _ rfl (g.a.alloc _) (wr.1.size:Nat) 1 1 [.int .u8 (k:Int)] rfl rfl (kN _ _ _) (by simp[Value.oneCell']) (by unfold maxLen;omega) (by omega) (by simp;omega) ?_;intro N ai s y am)
   go_roundw
   case rel=>
    refine⟨k+1,by omega,by go_num,?_,(g.b.alloc au _).b y (by simp;omega) (fun q e=>(g.a.lt q e).1)⟩;rw[g.C,dc];unfold gM;rw[kx];show World.ownsRow _ _ _ _ _ _ (_++[.int .u8 (Y (UInt8.ofNat k))]);rw[qD k al];exact s
   simp[intOf];omega
  have ap:k=256:=by omega
  subst ap;have g:=aD m u P;clear m u P aG aH f0 f1;obtain⟨A',m,rfl⟩:=bo g.a (dr rfl);have X:=g.b;have:=(show Boxed wr _ _ _ from(X.block _ f.a.da.lt).t f.a.da).C;have:=(show Boxed wr _ _ _ from(X.block _ f.a.ok.lt).t f.a.ok).C;have:=(show Boxed wr _ _ _ from(X.block _ f.a.da.lt).t f.a.da).frozen;have:=(show Boxed wr _ _ _ from(X.block _ f.a.ok.lt).t f.a.ok).frozen;clear X
  gi_wp2_with fail
  have s:=f.a.y;have:w.1.size+6<=W.1.size:=by
   have I:=(gS.1 (g.C)).1;have M:=s.size;omega
  have N:Below w.1.size w wr:=s.t (g.b.m s.size);have ar:D<W.1.size:=(gS.1 g.C).1;have L:∀q,q≠w.1.size->q≠w.1.size+1->((wr.setCell (w.1.size:Nat) (.slice A' (oL E 256).length m)).setCell (w.1.size+1:Nat) (.bool true)).1[q]? =wr.1[q]?:=fun q I M=>
   (cP _ _ _ _ M).t (cP _ _ _ _ I)
  have u:=(L D (by omega) (by omega)).t ((g.b.block D ar).t g.C);have y:=(((show Boxed wr _ _ _ from(g.b.block _ f.a.da.lt).t f.a.da).set (.slice A' (oL E 256).length m)).other (show w.1.size≠w.1.size+1 by omega) (.bool true)).C;have I:=(((show Boxed wr _ _ _ from(g.b.block _ f.a.ok.lt).t f.a.ok).other (show w.1.size+1≠w.1.size by omega) (.slice A' (oL E 256).length m)).set (.bool true)).C;refine⟨by simp,.inl ⟨_,_,rfl,mj u,?_⟩⟩;refine⟨_,yt rfl (fun _=>by kernel_rfl) (fun _=>by kernel_rfl) _ _ w.1.size (w.1.size+1) _ _ rfl rfl (iR y (eC _ D (.deferred none)) (fun r e=>by cases e;exact⟨_,u,rfl⟩)) (iR I (eC _ D (.deferred none)) (fun r e=>by cases e;exact⟨_,u,rfl⟩)),?_⟩;have aa:(dA ins Q).length<=4096:=by rw[<-T.y];exact f.a.len
  refine⟨_,by rw[fB aa],fun _=>?_,?_⟩
  .rw[<-T.y];have M:∀b,Value.ownBlock (.slice A' (oL E 256).length m)=some b->W.1.size<=b:=fun b e=>(g.a.lt b e).1;exact dJ (ft g.a (by omega)) fun b e ay=>(dX (by have:=M b e;omega)).t (L b (by have:=M b e;omega) (by have:=M b e;omega))
  exact((N.setCell (p:=(w.1.size:Nat)) (av _) _).setCell (p:=(w.1.size+1:Nat)) (by show w.1.size<=w.1.size+1;omega) _).b (eC _ D _) (by have:=N.size;simp[World.setCell];omega) (fun k e=>by cases e;omega)
 rintro D c o W ao af ⟨rfl,ae,X,ai,am⟩ P;have f:=aY ae X ai am;clear ae X ai am
 gi_wp2
 have y:=f.a.C;have I:=f.b.C;refine⟨by simp,.inl ⟨_,_,rfl,mj P,?_⟩⟩;refine⟨_,yt rfl (fun _=>by kernel_rfl) (fun _=>by kernel_rfl) _ _ w.1.size (w.1.size+1) _ _ rfl rfl (iR y (eC _ D (.deferred none)) (fun r e=>by cases e;exact⟨_,P,rfl⟩)) (iR I (eC _ D (.deferred none)) (fun r e=>by cases e;exact⟨_,P,rfl⟩)),?_⟩;have:=f.D;exact⟨_,by rw[gX (by omega)],fun h=>absurd h (by omega),f.c.b (eC _ D _) f.c.size (fun k e=>by cases e;omega)⟩
attribute [irreducible] oX oL
end
def cF(l:List UInt8):List UInt8:=((List.range 256).filter fun k=>l.contains (UInt8.ofNat k)).map UInt8.ofNat
def yg(l)(x):x∈cF l↔x∈l:=by
 unfold cF;rw[bX];constructor
 .grind
 intro h;exact⟨x,nE.2 ⟨fS.2 x.toNat_lt,by simp_all⟩,by simp⟩
def Jy(l):((cF l).map Y).Pairwise (·<·):=by
 unfold cF;rw[pN];refine Bz.2 ?_;have h:(List.range 256).Pairwise fun a b=>a<b/\a<256/\b<256:=by
  have c:=GW (n:=256);refine List.Pairwise.imp_of_mem ?_ c
  grind
 refine(h.filter _).imp ?_;rintro a b ⟨c,e,f⟩;simp only[Function.comp];rw[qD a e,qD b f];omega
def QA:∀(a b:List Int),a.Pairwise (·<·)->b.Pairwise (·<·)->(∀x,x∈a↔x∈b)->a=b
 |[],[],_,_,_=>rfl
 |[],y::b,_,_,h=>absurd ((h y).2 (by simp)) (by simp)
 |x::a,[],_,_,h=>absurd ((h x).1 (by simp)) (by simp)
 |x::a,y::b,c,f,h=>by
  have⟨j,g⟩:=lU.1 c;have⟨l,i⟩:=lU.1 f;have e:x=y:=by
   obtain e|m:=fI.1 ((h x).1 (by simp))
   .exact e
   obtain e|n:=fI.1 ((h y).2 (by simp))
   .omega
   grind
  subst e;rw[QA a b g i fun z=>?_]
  grind
open Go.Lib in
def Q9(d:Array Int)(c:∀i j,i<j->j<d.size->d[i]!<=d[j]!):∀m,m<=d.size->(compactUpTo d m).Pairwise (·<·)/\∀x,x∈compactUpTo d m↔∃j,j<m/\d[j]! =x
 |0,_=>⟨by simp[compactUpTo],fun x=>by simp[compactUpTo]⟩
 |m+1,o=>by
  have⟨f,g⟩:=Q9 d c m (by omega);rw[compactUpTo_succ];cases e:keeps d m
  .rw[O (by simp),kL];refine⟨f,fun x=>?_⟩;rw[g];have:¬(m=0\/d[m]!≠d[m-1]!):=by
    intro h;unfold keeps at e
    grind
   grind
  have:m=0\/d[m]!≠d[m-1]!:=by unfold keeps at e;exact mf e
  constructor
  .refine Fu.2 ⟨f,by simp,fun a l b n=>?_⟩;simp at n;obtain⟨j,p,rfl⟩:=(g a).1 l;have:=c (m-1) m (by omega) (by omega);have:d[j]!<=d[m-1]!:=by
    by_cases j=m-1
    .grind
    exact c j (m-1) (by omega) (by omega)
   omega
  grind
open Go.Lib in
def adC(l):compactUpTo ((l.map Y).mergeSort fun x y=>decide (x<=y)).toArray l.length=(cF l).map Y:=by
 have:((l.map Y).mergeSort fun x y=>decide (x<=y)).toArray.size=l:=by simp
 have o:∀j(g:j<l.length),((l.map Y).mergeSort fun x y=>decide (x<=y)).toArray[j]! =((l.map Y).mergeSort fun x y=>decide (x<=y))[j]'(by grind):=fun j g=>by
  grind
 have⟨m,n⟩:=Q9 ((l.map Y).mergeSort fun x y=>decide (x<=y)).toArray (fun i j h g=>by
  have:=BM.1 (Sb (le:=fun(x y:Int)=>decide (x<=y)) (fun a b c m n=>by grind) (fun a b=>by grind) (l.map Y)) i j (by grind) (by grind) h
  grind) l (by omega)
 refine QA _ _ m (Jy l) fun x=>?_;rw[n,bX];constructor
 .rintro⟨j,g,rfl⟩;rw[o j g];have⟨a,h,e⟩:=bX.1 ((Md (le:=fun(x y:Int)=>decide (x<=y))).1 (oM (l:=(l.map Y).mergeSort fun x y=>decide (x<=y)) (by simpa using g)));exact⟨a,(yg l a).2 h,e⟩
 rintro⟨a,h,rfl⟩;have⟨j,g,e⟩:=iD ((Md (le:=fun(x y:Int)=>decide (x<=y))).2 (Q6 (f:=Y) ((yg l a).1 h)))
 grind
attribute [irreducible] cF
end Go.Proofs.YtilhngjecfdgpaaGreatDoor
namespace Go.Proofs
def Tryz.Xv:Shelf.Ren:=⟨fun|43=>94|n=>n,fun|22=>23|23=>5|3=>3|4=>4|0=>0|n=>n,fun|n=>n⟩
def Tryz.afX:SlLaysE.n43 Tryz.prog Tryz.Xv:=⟨by kernel_rfl,⟨Tryz.f94.name,by decide,Tryz.func94.t (cs (by kernel_rfl))⟩,Lw,Tryz.isAgg0,Tryz.sizeOf0,Tryz.zeroValue0,Gp,Ge,FK,FQ,FV,Fx,EB,Fj,Tryz.underlying23,Tryz.isAgg23,Tryz.sizeOf23,Tryz.zeroValue23,Tryz.isAgg5,Tryz.sizeOf5⟩
end Go.Proofs
namespace Go.Proofs.YtilhngjecfdgpaaGreatDoor
open Go.RowKit Go.Shelf Go.Proofs.Tryz
section
open Go.Sort
def Qq{w}{g}{cur}{e}{a:List Int}(b:w.1[g]? =some (.cells cur e (0,0)))(c:cur.toList.take a=a.map T):Holds T w g 0 a.toArray:=by
 intro j f;refine⟨?_,by simp[World.frozen?,b]⟩;have:(cur.toList.take a)[j]? =(a.map T)[j]?:=by rw[c]
 simp only[World.cell?,b,cK]
 grind
def Rx{w}{g n}{os}{cur}{e}{fr}(d)(a:w.1[g]? =some (.cells cur e fr)):
 (grow (putRow T (Sort.ahead w n) g 0 d) os).1[g]? =some (.cells (putCells T 0 d cur) e fr):=by
 have:=(gS.1 a).1;rw[heap_grow_old _ _ (by simp_all)];simp[putRow,mapBlock,Sort.ahead,Ew,a,onCells]
def RT{w:World}{g n}{os}(d):w.grownBy (grow (putRow T (Sort.ahead w n) g 0 d) os) (some g):=by
 refine⟨rfl,rfl,rfl,by simp,fun k b a=>?_⟩;rw[heap_grow_old _ _ (by simp_all)];have:g≠k:=fun e=>a (by rw[e]);simp[putRow,mapBlock,Sort.ahead,Ew,this]
def S9(b:Array Value)(a:List Int)(h:a<=b.size):(putCells T 0 a.toArray b).toList.take a=a.map T:=by
 apply C7;intro j;by_cases c:j<a
 .simp[putCells,c,show j<b.size by omega]
 grind
def Oz(l):gM l=(l.map Y).map T:=by unfold gM;rw[pN];rfl
def P7{l}(h:l≠[]):cF l≠[]:=by
 have⟨x,a⟩:=List.exists_mem_of_ne_nil l h;have:=(yg l x).2 a
 grind
def LZ(ad)(c)(l)(w)(h:pK w (some ad) l)(M:l.length<=1000000)(N:l≠[]):
 Calls prog 51 #[.slice (some ad) l.length c] w fun e C=>∃g f,e= .returned (.slice (g:Nat) (cF l).length f)/\C.ownsRow w.1.size 5 1 (.slice (g:Nat) (cF l).length f) (cF l).length (gM (cF l))/\Below w.1.size w C:=by
 have O:=yT.2 N;have i:=R2 ad l.length c (gM l) w (by simp[gM]) (fun j u a=>by
  have⟨b,o,e,m,r⟩:=h O;cases e;refine⟨?_,m⟩;rw[eV];unfold gM at a
  grind) (fun u a=>by unfold gM at a;obtain⟨x,_,rfl⟩:=bX.1 a;rfl) M
 clear h;go_enter func51,ntmps51
 go_wp2_with fail
 refine i.m ?_;rintro e P ⟨v,rfl,E,F⟩;clear i;obtain⟨_,R⟩|⟨g,f,i,rfl,H,o,m,r,I,J⟩:=E.2
 .omega
 have⟨s,t⟩:=eX (l.map Y);have L:s.length=l.length:=by grind
 have z:=(gS.1 o).1;have p:=abe g 0 f s P (Qq o (by rw[L,t,<-Oz,<-J,CX])) z (by omega);rw[L]at p;have⟨h,A⟩:=eX (s.mergeSort fun x y=>decide (x<=y));have Q:h.length=l.length:=by simp_all
 rw[<-A]at p;have a:=gQ F o H m r I z A t;clear F o H m r I J z E A t
 go_wp2_with fail
 refine p.m ?_;rintro e m ⟨rfl,n,J,o⟩;clear p;have t:m.1[g]? =some (.cells (putCells T 0 h.toArray i) 5 (0,0)):=by rw[o];exact Rx _ a.b
 have A:Below w.1.size w m:=by rw[o];exact a.a.b (RT _) a.a.size (fun k e=>by cases e;exact a.c)
 have F:i.size=f:=by rw[a.f,CX]
 have p:=AnyE.slices_Compact afX T (fun _=>rfl) (EqlAt.intD _ _ .u8) (NeqAt.intD _ _ .u8) 0 (fun w=>by kernel_rfl) g 0 f h.toArray m (Qq t (S9 i h (by have:=a.d;omega))) (by grind) (by have:=a.d;simp;omega);have z:Lib.compactUpTo h.toArray l.length=(cF l).map Y:=by rw[a.h,a.I];exact adC l
 have E:(cF l).length<=l.length:=by
  have:=cg List.length z;rw[cV]at this;rw[<-this];unfold Lib.compactUpTo
  grind
 simp only[jC,Q,z,cV]at p;have r:=aY o t A E;clear o t A z E;change Calls prog 94 _ _ _ at p
 go_wp2_with fail
 refine p.m ?_;rintro e o ⟨rfl,q,H⟩;clear p;have p:o=grow (putRow T (Sort.ahead m q) g 0 ((cF l).map Y++List.replicate (l.length-(cF l).length) 0).toArray) #[]:=by simp_all
 have t:o.1[g]? =some (.cells (putCells T 0 ((cF l).map Y++List.replicate (l.length-(cF l).length) 0).toArray (putCells T 0 h.toArray i)) 5 (0,0)):=by rw[p];exact Rx _ r.b
 have z:Below w.1.size w o:=by rw[p];exact r.c.b (RT _) r.c.size (fun k e=>by cases e;exact a.c)
 have A:o.ownsRow w.1.size 5 1 (.slice (g:Nat) (cF l).length f) (cF l).length (gM (cF l)):=by
  have:=r.D;refine⟨by simp[gM],.inr ⟨g,f,_,rfl,a.c,t,by have:=a.d;omega,a.e,by simp[putCells,F],?_⟩⟩;rw[CX];have E:=cg (List.take (cF l).length) (S9 (putCells T 0 h.toArray i) ((cF l).map Y++List.replicate (l.length-(cF l).length) 0) (by have:=a.d;simp[putCells];omega));rw[List.take_take,xy (by simp)]at E;rw[E,kx,List.take_append_of_le_length (by simp),Oz]
  grind
 have I:=aA A z;clear A z t p H;go_wp2;go_ret;exact⟨g,f,rfl,I.y⟩
end
structure a8 where
 N:Nat
 init:List UInt8
 h:List (List Ins)
structure CG(p:a8):Prop where
 pg:1<=p.N
 iG:p.N<=6
 init:p.init.length=p.N
 h:p.h.length<=3
 code:∀t∈p.h,lT t
 many:(p.h.map List.length).sum<=8
def fM(C:List (List Ins))(vs:List UInt8)(k:Nat):List UInt8:=vs++(C.take k).flatMap fun ins=>oX (dA ins vs)
def OX(C)(vs)(k)(ins:List Ins)(h:C[k]? =ins):fM C vs (k+1)=fM C vs k++oX (dA ins vs):=by
 unfold fM;rw[jd,h];simp
def RX(C)(vs):fM C vs 0=vs:=by unfold fM;rw[IC,Hz,kL]
def aem(m v k a)(b:m<=v+k*256)(c:a<=256):m+a<=v+(k+1)*256:=by omega
def ZZ(C)(vs)(k):(fM C vs k)<=vs+k*256:=by
 induction k with
 |zero=>unfold fM;rw[IC,Hz,kL];omega
 |succ k a=>
  cases h:C[k]? with
  |none=>
   have:fM C vs (k+1)=fM C vs k:=by unfold fM;rw[jd,h];simp
   grind
  |some ins=>
   rw[OX C vs k ins h,dc];exact aem _ _ _ _ a (by unfold oX;exact IQ _ _)
def sd(C:List (List Ins))(vs:List UInt8):Option (List UInt8):=
 if C.all fun ins=>decide ((dA ins vs).length<=4096)then some (cF (fM C vs C.length))else none
def me(C:List (List Ins)):Nat->List UInt8->Option (List UInt8)
 |0,_=>none
 |n+1,vs=>if 16<vs.length then none else match sd C vs with
  |none=>none
  |some nx=>if nx.length=vs.length then some vs else me C n nx
def pY(p:a8):Option (List UInt8):=me p.h 20 (cF p.init)
def FJ(l):(cF l).Nodup:=by
 have h:=Jy l;rw[Bz]at h;exact h.imp fun{a b} c e=>by grind
def yC{α}[DecidableEq α]:∀(a b:List α),a.Nodup->(∀x∈a,x∈b)->a.length<=b
 |[],_,_,_=>aQ _
 |x::a,b,c,h=>by
  have⟨f,e⟩:=lU.1 c;have:=yC a (b.erase x) e fun y g=>by
   grind
  grind
def Vh{C}{vs}(a:vs.Nodup)(k):vs<=(cF (fM C vs k)).length:=
 yC _ _ a fun x b=>(yg _ x).2 (by unfold fM;exact rP _ b)
attribute [irreducible] fM me sd pY
def BL(W:World)(T:Option Addr)(ps:List (List Ins)):Prop:=
 0<ps.length->∃b e,T=some ⟨b,e,none⟩/\b<W.1.size/\∀k ins,ps[k]? =some ins->∃A c,W.cell? ⟨b,e+k,none⟩=some (.slice A ins.length c)/\jG W A ins/\∀a,A=some a->0<ins.length->a.block<W.1.size
structure eE(W:World)(g:Nat->Value)(p:a8):Prop where
 N:∃L c,g 1= .slice L p.N c
 init:∃I c,g 2= .slice I p.init.length c/\pK W I p.init
 h:∃T c,g 3= .slice T p.h.length c/\BL W T p.h
def BL.Z{n}{W W'}{T}{ps}(h:BL W T ps)(f:Below n W W')(i:W<=n):BL W' T ps:=by
 intro g;obtain⟨b,off,rfl,o,r⟩:=h g;refine⟨b,off,rfl,aW o f.size,fun k ins u=>?_⟩;have⟨A,c,w,y,C⟩:=r k ins u;exact⟨A,c,(f.C (p:=⟨b,off+k,none⟩) (by grind)).t w,y.Z f i,fun a e g=>aW (C a e g) f.size⟩
def eE.Z{n}{W W'}{g}{p}(h:eE W g p)(f:Below n W W')(i:W<=n):eE W' g p:=by
 have⟨I,c,o,r⟩:=h.init;have⟨T,u,w,y⟩:=h.h;exact⟨h.N,⟨I,c,o,r.Z f i⟩,⟨T,u,w,y.Z f i⟩⟩
def jH(w:World)(g:Nat->Value):Prop:=∀W,Below w w W->Calls prog 10 #[.agg (J 10 g)] W (Rs (.int .i64 0) W)
def jH.Z{w w'}{g}(h:jH w g)(f:Below w w w'):jH w' g:=fun W i=>h W (f.t (i.m f.size))
def gC:(prog.info? 29).map (·.size)=some 10:=by kernel_rfl
def fN:prog.underlying 29=some (.struct (prog.fieldsOf 29)):=by kernel_rfl
def ads{P:Program}(w:World){ops}{rest}{o}{a}{Q}(p:o.guard=none)(s x)(t)
 (q:o.op= .call {callee:= .builtin .append,args:=#[s,x],argTypes:=#[t,t]})
 (base)(e)(i:TypeInfo)(z:Value)(size bytes)(r:P.underlying t=some (.slice e))(y:P.info? e=i)(F:i.zero=z)
 (H:i.size=size)(I:i.bytes=bytes)(J:z.cells.size=size)(L:0<size)
 (v)(n)(xs)(A:a.eval s=v)(C:w.ownsRow base e size v n xs)
 (b2)(v2)(m)(ys)(E:a.eval x=v2)(c:w.ownsRow b2 e size v2 m ys)(l:∀u∈ys,u.oneCell'=true)
 (M:n+m<=maxLen)(N:(n+m)*bytes<=140737488355328)(O:base<=w)
 (h:∀f b,b.ownsRow base e size f (n+m) (xs++ys)->w.grownBy b v.ownBlock->wpList P ops Q rest (a.put o.dst f) b):wpList P ops Q (o::rest) a w:=by
 obtain⟨R,T⟩|⟨g,W,aa,e1,_⟩:=c.2
 .subst R T;obtain rfl:ys=[]:=zM (by have:=c.1;simpa using this);refine T6 p s x t q base e i size r y v n xs A C (by rw[E]) (h v w (by grind) ⟨rfl,rfl,rfl,av _,fun _ _ _=>rfl⟩)
 subst e1;exact qJ w p s x t q base e i z size bytes r y F H I J L v n xs A C g m W ys E c.1 (fun j u X=>c.cells (g:=g) rfl j u X) l M N O (fun f b l X _=>h f b l X)
def P1:Value->Nat
 | .slice _ n _=>n
 |_=>0
def CO{W}{base g c:Nat}{l}(h:W.ownsRow base 5 1 (.slice g l c) l (gM l)):pK W g l:=by
 intro b;refine⟨g,0,rfl,(h.lt g rfl).2,fun i x a=>?_⟩;have:=h.cells (g:=g) rfl i x (by unfold gM;rw[dG,a];rfl);rwa[eV]at this
def Sc{C}{k}{vs}(h:16<vs.length):me C k vs=none:=by
 cases k with
 |zero=>unfold me;rfl
 |succ k=>unfold me;rw[aq h]
def Od{C}{k}{vs}(h:¬16<vs.length):me C (k+1) vs=match sd C vs with
 |none=>none
 |some nx=>if nx.length=vs.length then some vs else me C k nx:=by rw[me,O h]<;>cases sd C vs<;>rfl
def abV{C}{vs}{k:Nat}{ins}(a:C[k]? =some ins)(h:¬(dA ins vs).length<=4096):sd C vs=none:=by
 unfold sd
 grind
def acw{C}{vs}(h:∀(k:Nat)(ins:List Ins),C[k]? =some ins->(dA ins vs).length<=4096):sd C vs=(cF (fM C vs C)):=by
 unfold sd;rw[aq];refine mw.2 fun ins a=>?_;obtain⟨k,b,rfl⟩:=iD a;exact fB (h k _ (aI b))
def adg(g:Nat->Value)(p:a8)(w:World)(r:CG p)(n:eE w g p)(t:jH w g):
 Calls prog 20 #[.agg (J 10 g),.int .i64 16] w fun e ak=>
  ∃v,e= .returned (.tuple #[v,.int .i64 (if(pY p).isSome then 0 else 5)])/\(∀vs,pY p=some vs->vs≠[]/\ak.ownsRow w.1.size 5 1 v vs.length (gM vs))/\Below w w ak:=by
 have⟨aH,aJ,aK,aL,aM⟩:=eQ I0;have⟨R,b⟩:=eX (pY p);rw[<-b];have⟨E,c⟩:=eX (if R.isSome then 0 else 5:Int);rw[<-c];have z:=aA b c;clear b c;have⟨I,aN,o,y⟩:=n.init;have⟨T,a9,s,F⟩:=n.h;have c:aj (w.alloc (.cells (J 10 g) 29)) w.1.size 29 10 g:=aj.new _ _ _ _;have b:Below w w (w.alloc (.cells (J 10 g) 29)):=ba w _;have l:=t (w.alloc (.cells (J 10 g) 29)) b;rw[show J 10 g=#[g 0,g 1,g 2,g 3,g 4,g 5,g 6,g 7,g 8,g 9]from rfl]at l c b⊢;rw[o,s]at l c b⊢;have f:=dC c b y F o s;clear c b y F n t o s;go_enter func20,ntmps20
 go_wp2_with fail
 refine l.st fun al c=>?_;clear l;have ae:p.init≠[]:=fun e=>by have am:=r.init;have:=r.pg;rw[e]at am;simp at am;omega
 obtain⟨aO,aP,rfl,bb,o⟩:=f.c (yT.2 ae);have l:Below w w al:=f.b.t (c.m f.b.size);have b:=f.a.Z c f.a.lt;have n:=b.C 2 (dr rfl);have W:=b.C 3 (dr rfl);rw[f.e]at n;rw[f.F]at W;have H:=LZ ⟨aO,aP,none⟩ aN p.init al (f.c.Z l (av _)) (by have:=r.init;have:=r.iG;omega) ae;have P:=aA l b;clear l b c o
 go_wp2_with fail
 refine H.m ?_;rintro e aR ⟨aS,aT,rfl,c,b⟩;clear H;have y:=aY (show Below w w aR from P.a.t (b.m P.a.size)) (ft c P.a.size) (P.B.Z b P.B.lt) z;clear b c z n W;go_wp2
 go_loopw [6] (fun v wr=>∃(vs:List UInt8)(k l z:Nat),v= .slice l vs.length z/\wr.ownsRow w.1.size 5 1 (.slice l vs.length z) vs.length (gM vs)/\Below w w wr/\aj wr w.1.size 29 10 g/\vs≠[]/\vs.Nodup/\20<=vs.length+k/\me p.h k vs=R) (fun v _=>17-P1 v)
 case atStart=>exact⟨cF p.init,20,aS,aT,rfl,y.b,y.a,y.c,P7 ae,FJ _,by omega,by rw[y.d];unfold pY;rfl⟩
 obtain⟨vs,k,l,z,rfl,b,n,L,Q,X,M,t⟩:=hrel;have⟨s,aU⟩:=eX wr;subst aU;by_cases F:16<vs.length
 .have bc:(16:Int)<(vs.length:Int):=by omega
  have c:=aA n (t.s.t (Sc F));clear n t b L F M;go_wp2
  go_ret2
  exact⟨_,by rw[y.E,c.B];rfl,fun an e=>(by rw[c.B]at e;cases e),c.a⟩
 obtain⟨k,rfl⟩:∃k',k=k'+1:=⟨k-1,by omega⟩
 have N:=Od (C:=p.h) (k:=k) F;rw[t]at N;have:¬(16:Int)<(vs.length:Int):=by omega
 have:vs.length<=16:=by omega
 have aa:=R2 l vs.length z (gM vs) s (by simp[gM]) (fun j u o=>⟨b.cells (g:=l) rfl j u o,(b.lt l rfl).2⟩) (fun u o=>by unfold gM at o;obtain⟨x,_,rfl⟩:=bX.1 o;rfl) (by omega);have c:=dH n b L N M X Q;have ao:=n.size;clear n b L N M t X F Q
 go_wp2_with fail
 refine aa.m ?_;rintro e bd ⟨be,rfl,b,n⟩;clear aa;obtain⟨_,aV⟩|⟨g3,aX,_,rfl,_⟩:=b.2
 .exact absurd (zM aV) c.G
 have t:=c.c.Z n c.c.lt;have W:=t.C 3 (dr rfl);rw[f.F]at W;have ap:=aD n b t;clear n b t;go_wp2
 go_loopw [7,35] (fun v i b=>∃j X aa:Nat,j<=p.h.length/\i= .int .i64 j/\v= .slice X (fM p.h vs j).length aa/\b.ownsRow s.1.size 5 1 (.slice X (fM p.h vs j).length aa) (fM p.h vs j).length (gM (fM p.h vs j))/\Below s s b/\∀(k':Nat)(ins:List Ins),k'<j->p.h[k']? =some ins->(dA ins vs).length<=4096) (fun _ i _=>p.h.length-(intOf i).toNat)
 case atStart=>exact⟨0,g3,aX,aQ _,rfl,by rw[RX],by rw[RX];exact ap.b,ap.a,fun k' ins h=>absurd h (jD _)⟩
 obtain⟨j,X,aa,bf,rfl,rfl,M,n,ab⟩:=hrel;have aZ:=ZZ p.h vs j;have:=r.h;obtain⟨af,F⟩:∃m,m=(fM p.h vs j).length:=⟨_,rfl⟩
 rw[<-F]at M aZ⊢;by_cases a0:j<p.h.length
 .obtain⟨ar,au,rfl,ah,ai⟩:=f.d (by omega);obtain⟨ins,N⟩:∃ins,p.h[j]? =some ins:=⟨_,aI a0⟩
  have⟨A,aw,ax,ay,az⟩:=ai j ins N;have L:Below w w s:=c.a;have t:Below w w wr:=L.t (n.m ao);have aB:wr.cell? ⟨ar,au+j,none⟩=some (.slice A ins.length aw):=(t.C (p:=⟨ar,au+j,none⟩) ah).t ax;have a1:(j:Int)<(p.h.length:Int):=by omega
  have Q:wr.ownsRow w.1.size 5 1 (.slice l vs.length z) vs.length (gM vs):=bP c.b n;have ad:=YH ins vs A l aw z wr (r.code ins (cB N)) (by omega) (ay.Z t (av _)) (CO Q) (fun a e r=>aW (az a e r) t.size) (fun a e=>by cases e;exact(Q.lt l rfl).2);have:=n.size;have aC:=IQ (dA ins vs) 256;have⟨q,ag⟩:=eX (decide ((dA ins vs).length<=4096));rw[<-ag]at ad;have b:=gQ M n ab N ag F L t aC;clear M n ab N ax ay az ai ah ag Q F L t aC
  go_wp2_with fail
  refine ad.m ?_;rintro e ax ⟨a2,rfl,ag,N⟩;clear ad;cases q with
  |false=>
   have Q:=b.h.t (N.m b.h.size);have t:=H Q;clear N Q ag aB;go_wp2
   go_ret2
   have ay:R=none:=by
    rw[c.d,abV b.d (yG b.e.s)]
   exact⟨_,by rw[y.E,ay];rfl,fun an e=>(by rw[ay]at e;cases e),t.y⟩
  |true=>
   have ah:=mf b.e.s;have ai:=ag ah;have az:=bP b.a N;obtain⟨Q,ad⟩:∃m,m=(oX (dA ins vs)).length:=⟨_,rfl⟩
   have:Q<=256:=by rw[ad];unfold oX;exact b.I
   rw[<-ad]at ai;have:=N.size;have t:=bM N ai az ad ah;clear N ai az ag aB ad ah;have a3:∃az aB,a2= .slice az Q aB:=bo t.b (dr rfl);obtain⟨az,aB,rfl⟩:=a3
   go_wp2_with (at_builtin;refine ads _ rfl (.tmp 47) (.tmp 48) 23 rfl s.1.size 5 aH (.int .u8 0) 1 1 underlying23 aJ aK aL aM rfl (dr rfl) _ af _ rfl t.c wr.1.size _ Q _ rfl t.b (fun u o=>by unfold gM at o;obtain⟨x,_,rfl⟩:=bX.1 o;rfl) (by unfold maxLen;omega) (by omega) (by omega) ?_;intro ah ag N ad)
   have a4:0<af+Q:=by
    have:=yT.2 c.G;have aC:=b.f;unfold fM at aC;rw[dc]at aC;omega
   obtain⟨a5,a6,rfl,_,_⟩:=N.form a4;have aE:=aA N (show Below s s ag from(b.b.t (t.a.m b.b.size)).b ad (by omega) (fun k e=>(b.a.lt k e).1));clear N ad
   go_roundw
   case rel=>
    have aF:=OX p.h vs j ins b.d;have aG:(fM p.h vs (j+1)).length=af+Q:=by rw[aF,dc,<-b.f,<-t.d]
    refine⟨j+1,a5,a6,by omega,by go_num,by rw[aG],?_,aE.B,fun k' ag bg o=>?_⟩
    .rw[aG,aF];have h:=aE.a;unfold gM at h⊢;rw[kx];exact h
    by_cases e:k'=j
    .subst e;rw[b.d]at o;injection o with o;rw[<-o];exact t.E
    exact b.c k' ag (by omega) o
   simp[intOf];omega
 have a7:j=p.h.length:=by omega
 subst a7;have L:Below w w wr:=c.a.t (n.m ao);have ah:R=if(cF (fM p.h vs p.h.length)).length=vs.length then some vs else me p.h k (cF (fM p.h vs p.h.length)):=by
  rw[c.d,acw (fun k' ag o=>ab k' ag (by
   obtain h|h:=qN k' p.h.length
   .exact h
   .rw[od h]at o;cases o) o)]
 have ai:fM p.h vs p.h.length≠[]:=fun e=>by
  unfold fM at e;exact c.G (List.append_eq_nil_iff.1 e).1
 have N:=Vh (C:=p.h) c.f p.h.length;rw[F]at M;have ad:=LZ X aa (fM p.h vs p.h.length) wr (CO M) (by rw[<-F];omega) ai;rw[<-F]at ad;have⟨D,X⟩:=eX (cF (fM p.h vs p.h.length));rw[<-X]at ad ah N;have aa:=L.size;have b:=dC L ah ai X (show wr.ownsRow w.1.size 5 1 (.slice l vs.length z) vs.length (gM vs)from bP c.b n) (c.c.Z n c.c.lt);clear L ah ai M n ab F X
 go_wp2_with fail
 refine ad.m ?_;rintro e ax ⟨L,M,rfl,n,l⟩;clear ad;have z:=aY (show Below w w ax from b.a.t (l.m b.a.size)) (ft n aa) (bP b.e l) (b.F.Z l b.F.lt);clear n l;by_cases n:D.length=vs.length
 .have a1:((D.length:Int)==(vs.length:Int))=true:=by rw[n];simp
  have F:R=some vs:=by rw[b.b,aq n]
  have l:=H F;clear F n N;go_wp2
  go_ret2
  exact⟨_,by rw[y.E,l.y];rfl,fun an e=>(by rw[l.y]at e;cases e;exact⟨c.G,z.c⟩),z.a⟩
 have:((D.length:Int)==(vs.length:Int))=false:=by simp;omega
 have l:=aD (by rw[b.b,O n]:me p.h k D=R) n N;clear n N;go_wp2
 go_roundw
 case rel=>
  refine⟨D,k,L,M,rfl,z.b,z.a,z.D,?_,?_,?_,l.a⟩
  .rw[b.d];exact P7 b.c
  .rw[b.d];exact FJ _
  have:=l.b;have:=l.C;have:=c.e;omega
 have:=l.b;have:=l.C;simp[P1];omega
def ru(ins:List Ins)(Q:List UInt8):List Path:=(dA ins Q).map eA
def Jp(ins)(Q):(ru ins Q).length=(dA ins Q):=cV _
section
def sU(W:World)(base:Nat)(v:Value)(ps:List Path):Prop:=
 ∃a:List (List Value),a.length=ps.length/\W.ownsRow base 135 12 v ps.length a.flatten/\∀(i:Nat)(p:Path)(cs:List Value),ps[i]? =some p->a[i]? =some cs->iH W base p cs
def sU.Z{W W'}{base}{v}{ps}(h:sU W base v ps)(f:Below W W W'):sU W' base v ps:=by
 obtain⟨g,o,r,u⟩:=h;exact⟨g,o,bP r f,fun i p cs a b=>(u i p cs a b).Z f⟩
def iH.base{W}{b b'}{p}{cs}(h:iH W b p cs)(f:b'<=b):iH W b' p cs:=by
 obtain⟨g,i,o,r,e,u,w,y,A⟩:=h;exact⟨g,i,o,r,e,ft u f,ft w f,ft y f,ft A f⟩
def sU.base{W}{b b'}{v}{ps}(h:sU W b v ps)(f:b'<=b):sU W b' v ps:=by
 obtain⟨g,o,r,u⟩:=h;exact⟨g,o,ft r f,fun i p cs a b=>(u i p cs a b).base f⟩
def D1(cs:List Value)(b:Nat):Prop:=∃v∈cs,v.ownBlock=some b
def iH.same{W W'}{base}{p}{cs}(h:iH W base p cs)(i:∀b,D1 cs b->b<W->W'.1[b]? =W.1[b]?):iH W' base p cs:=by
 obtain⟨r,u,w,y,e,A,C,E,F⟩:=h;have o:∀v∈[r,u,w,y],v∈cs:=fun v H=>by rw[e];unfold mY;exact rP _ H
 exact⟨r,u,w,y,e,dJ A fun b f g=>i b ⟨_,o _ (by simp),f⟩ g,dJ C fun b f g=>i b ⟨_,o _ (by simp),f⟩ g,
  dJ E fun b f g=>i b ⟨_,o _ (by simp),f⟩ g,dJ F fun b f g=>i b ⟨_,o _ (by simp),f⟩ g⟩
def iH.named{W}{base}{p}{cs}(h:iH W base p cs){b}(o:D1 cs b):base<=b/\b<W:=by
 obtain⟨A,C,E,F,e,r,u,w,y⟩:=h;obtain⟨v,f,g⟩:=o;rw[e]at f;obtain f|f:=mg.1 f
 .simp only[fI,sV,Cr]at f;obtain rfl|rfl|rfl|rfl:=f
  .exact r.lt b g
  .exact u.lt b g
  .exact w.lt b g
  exact y.lt b g
 obtain⟨i,_,rfl⟩:=bX.1 f;cases g
def Qb{ve vd vc vm}{f}:(mY ve vd vc vm f).length=12:=by unfold mY JT;simp
def iH.len{W}{base}{p}{cs}(h:iH W base p cs):cs.length=12:=by
 obtain⟨f,g,i,o,e,_⟩:=h;rw[e];exact Qb
def KV:(prog.info? 135).map (fun i=>(i.zero,i.size,i.bytes))=some (some (.agg #[nS,nS,nS,nS,.int .u8 0,.int .u8 0,.int .u8 0,.int .u8 0,.int .u8 0,.int .u8 0,.int .u8 0,.int .u8 0]),12,104):=by kernel_rfl
def abF{P}{ops}{w0}{Q}{R:World->Prop}{a}{rest}{o}(e)(cs)(l:Bo.gY o=true)(m:Region.wanted o (yielded ops a.tmps)=true)
 (n:∀W,(execOp a.eval o).run P W= .ok (.value (.slice W 1 1)) (W.alloc (.cells cs e)))(j:∀W W',R W->Below W W W'->R W')
 (h:∀g,Bo.walk P ops (jY w0) none Q rest (fun W=>R W/\W.1[g]? =some (.cells cs e (0,0))) (a.put o.dst (.slice (g:Nat) 1 1))):Bo.walk P ops (jY w0) none Q (o::rest) R a:=
 Bo.ym (fun v i=>∃g,v= .slice (g:Nat) 1 1/\i=fun W=>R W/\W.1[g]? =some (.cells cs e (0,0))) l m
   (fun v i ⟨g,_,f⟩ W z b=>by
     subst f;have c:=ba W z;exact⟨j _ _ b.1 c,(c.block _ (gS.1 b.2).1).t b.2⟩) ⟨_,_,0,rfl,rfl⟩
   (fun W b f=>by
     rw[n W];have c:=ba W (.cells cs e);exact⟨_,⟨W,rfl,rfl⟩,(b).t (c.m (b).size),⟨j _ _ f c,jZ W _⟩,Bo.Kept.gz c⟩)
   (fun v i ⟨g,b,f⟩=>by grind)
structure BJ(w:World)(D B rb lb cap gd cd:Nat)(dd:List UInt8)(pre:List aK)(fp:List Nat)(W:World):Prop where
 da:Boxed W (w.1.size+1) 127 nS
 ok:Boxed W (w.1.size+2) 38 (.int .i64 0)
 y:Below w w W
 box:Boxed W lb 127 (.slice rb pre.length cap)
 gF:∀q∈fp,B<=q/\q<W.1.size
 mark:W.1[D]? =some (.deferred (some []))
 Q:W.ownsRow w.1.size 5 1 (.slice gd dd.length cd) dd.length (gM dd)
 row:∃css:List (List Value),css.length=pre.length/\W.ownsRow w.1.size 135 12 (.slice rb pre.length cap) pre.length css.flatten/\
  ∀(i:Nat)(r:aK)(cs:List Value),pre[i]? =some r->css[i]? =some cs->iH W w.1.size (eA r) cs/\∀b,D1 cs b->b∈fp
def BJ.steps{w}{D B rb lb cap gd cd}{dd}{pre}{fp}{W W'}(h:BJ w D B rb lb cap gd cd dd pre fp W)(L:w+3<=B)(M:rb<B)(y:lb<B)(N:gd<B)(A:D<B)(f:Rg.Steps B fp W W'):BJ w D B rb lb cap gd cd dd pre fp W':=by
 have key:∀{b:Nat}{t:TypeId}{v:Value},b<B->Boxed W b t v->Boxed W' b t v:=fun o h=>(f.block _ h.lt (.inl o)).t h;have⟨C,E,F,H⟩:=h.row;refine⟨key (by omega) h.da,key (by omega) h.ok,Hb h.y (av _) (by omega) f,key y h.box,fun q u=>⟨(h.gF q u).1,aW (h.gF q u).2 f.size⟩,(f.block _ (gS.1 h.mark).1 (.inl A)).t h.mark,
  dJ h.Q fun b e g=>f.block b g (.inl (by have e2:gd=b:=aR e;omega)),C,E,dJ F fun b e g=>f.block b g (.inl (by have:rb=b:=aR e;omega)),fun i r cs k1 I=>?_⟩
 have⟨J,u⟩:=H i r cs k1 I;exact⟨J.same fun b o g=>f.block b g (.inr (u b o)),u⟩
structure zE(w:World)(nb:Nat)(pre:List aK)(fp:List Nat)(W:World):Prop where
 aJ:Boxed W w.1.size 3 (.int .i64 4096)
 da:Boxed W (w.1.size+1) 127 nS
 ok:Boxed W (w.1.size+2) 38 (.int .i64 0)
 lV:Boxed W nb 3 (.int .i64 pre.length)
 y:Below w w W
 none:fp=[]
 len:pre.length<=4096
def FT(w:World)(L:Nat)(c:Code)(a:List aK)(W:World):Prop:=
 c= .ret/\Boxed W (w.1.size+1) 127 nS/\Boxed W (w.1.size+2) 38 (.int .i64 5)/\Below w w W/\4096<L
def zE.steps{w}{nb B:Nat}{pre}{fp}{W W'}(h:zE w nb pre fp W)(o:w+3<=B)(g:nb<B)(f:Rg.Steps B fp W W'):zE w nb pre fp W':=by
 have key:∀{b:Nat}{t:TypeId}{v:Value},b<B->Boxed W b t v->Boxed W' b t v:=fun i h=>(f.block _ h.lt (.inl i)).t h;exact⟨key (by omega) h.aJ,key (by omega) h.da,key (by omega) h.ok,key g h.lV,Hb h.y (av _) (by omega) f,h.none,h.len⟩
def FT.put{w}{L l:Nat}{c}{pre}{W}{o'}(h:FT w L c pre W)(f:w+3<=l):FT w L c pre (W.putObj l o'):=
 ⟨h.1,(dX (by omega)).t h.2.1,(dX (by omega)).t h.2.2.1,h.2.2.2.1.b (eC W l o') h.2.2.2.1.size (fun k e=>by grind),h.2.2.2.2⟩
attribute [local go_sem] Oper.semAt_some
def AX(w:World)(A:Option Addr)(n c:Nat):Prop:=∀W,Below w w W->Calls prog 96 #[.slice A n c] W (Rs (.bool true) W)
def YT(ins:List Ins)(Q:List UInt8)(A:Option Addr)(a5:Addr)(N bg:Nat)(w:World)(z:lT ins)(bT:Q.length<=1000)(C:Q≠[])(F:jG w A ins)(aL:pK w (some a5) Q)(I:∀a,A=some a->0<ins.length->a.block<w.1.size)(J:bh w)(f:AX w A ins.length N):
 Calls prog 54 #[.slice A ins.length N,.slice (some a5) Q.length bg,.int .i64 4096] w fun e a6=>
  ∃v,e= .returned (.tuple #[v,.int .i64 (if(dA ins (cF Q)).length<=4096 then 0 else 5)])/\((dA ins (cF Q)).length<=4096->sU a6 w.1.size v (ru ins (cF Q)))/\(4096<(dA ins (cF Q)).length->v=nS)/\Below w w a6:=by
 have⟨s,m⟩:=eX (cF Q);have:s.length<=256:=by
  have h:=(Jy Q)
  rw[m];unfold cF;rw[cV];have:=wM (fun k=>Q.contains (UInt8.ofNat k)) (List.range 256);simpa using this
 rw[<-m];have⟨L,g⟩:=eX (dA ins s).length;rw[<-g];have⟨E,y⟩:=eX (if L<=4096 then 0 else 5:Int);rw[<-y];have aa:=gQ z F aL I J f g y C;clear F aL I z J f g y C;refine(dh (n:=9)).1 ?_;refine sZ func54 rfl trivial ?_ rfl;simp only[ntmps54,jC,gL,iP,Nat.reduceAdd,Nat.reduceSub,j8,j5,kh,kj,gG,iJ]
 gi_wp2_with fail
 have f:∀ai,ai=((w.alloc (.cells #[.int .i64 4096] 3)).alloc (.cells #[nS] 127)).alloc (.cells #[.int .i64 0] 38)->
  Boxed ai w.1.size 3 (.int .i64 4096)/\Boxed ai (w.1.size+1) 127 nS/\Boxed ai (w.1.size+2) 38 (.int .i64 0)/\Below w w ai/\ai.1.size=w.1.size+3:=by
  rintro ai rfl;have bi:=dE (w.alloc (.cells #[.int .i64 4096] 3)) 127 nS;have bj:=dE ((w.alloc (.cells #[.int .i64 4096] 3)).alloc (.cells #[nS] 127)) 38 (.int .i64 0);simp only[cT,mq,Nat.reduceAdd]at bi bj;exact⟨((dE w _ _).alloc _).alloc _,bi.alloc _,bj,((ba w _).alloc (by simp) _).alloc (by simp;omega) _,by simp⟩
 generalize g:((w.alloc (.cells #[.int .i64 4096] 3)).alloc (.cells #[nS] 127)).alloc (.cells #[.int .i64 0] 38)=ai;have⟨I,J,M,y,ab⟩:=f ai g.s;clear f g;refine⟨trivial,?_⟩;refine(dh.2 (aa.f ai y)).st fun a7 g=>?_;have f:∀{W W':World}{q:Nat}{t:TypeId}{v:Value},Boxed W q t v->Below W.1.size W W'->Boxed W' q t v:=fun h C=>(C.block _ h.lt).t h;have P:=f I g;have R:=f J g;have T:=f M g;have z:Below w w a7:=y.t (g.m y.size);have F:=LZ a5 bg Q a7 (aa.c.Z z (av _)) (by omega) aa.I;rw[<-m]at F;clear m;have:w.1.size+3<=a7.1.size:=by have:=g.size;omega
 have X:=bM P R T z @f;clear I J M y ab g P R T z f
 gi_wp2
 refine⟨trivial,?_⟩;refine(dh.2 F).m ?_;rintro e ad ⟨y,J,rfl,z,g⟩;clear F;have⟨aU,z2,aV,aF,f⟩:=X.y;have bl:w.1.size+3<=ad.1.size:=by have:=g.size;omega
 have m:=dC (f aU g) (f z2 g) (f aV g) (show Below w w ad from aF.t (g.m aF.size)) (ft z (aO (nJ rfl) aF.size)) @f;clear aU z2 aV aF f g z X
 gi_wp2_with fail
 have M:∀W3,W3=ad.alloc (.cells #[.int .i64 0] 3)->zE w ad.1.size [] [] W3/\W3.1.size=ad.1.size+1/\Below ad ad W3:=by
  rintro W3 rfl;have⟨aU,z2,aV,aF,_,_⟩:=m.y;exact⟨⟨aU.alloc _,z2.alloc _,aV.alloc _,dE ad _ _,aF.alloc aF.size _,rfl,aQ _⟩,by simp,ba ad _⟩
 generalize g:ad.alloc (.cells #[.int .i64 0] 3)=W3;have⟨I,f,R⟩:=M W3 g.s;clear M g;refine⟨trivial,?_⟩;refine(dh.2 (LG A y ins.length s.length N J W3)).m ?_;rintro e bU ⟨rfl,rfl⟩;have an:Boxed ((W3.alloc (.cells #[.slice A ins.length N] 32)).alloc (.cells #[.slice y s.length J] 23)) W3.1.size 32 (.slice A ins.length N):=(dE W3 _ _).alloc _;have P:Boxed ((W3.alloc (.cells #[.slice A ins.length N] 32)).alloc (.cells #[.slice y s.length J] 23)) (W3.1.size+1) 23 (.slice y s.length J):=by
  have:=dE (W3.alloc (.cells #[.slice A ins.length N] 32)) 23 (.slice y s.length J);rwa[cT]at this
 have bm:((W3.alloc (.cells #[.slice A ins.length N] 32)).alloc (.cells #[.slice y s.length J] 23)).1.size=W3.1.size+2:=by simp
 have g:Below W3.1.size W3 ((W3.alloc (.cells #[.slice A ins.length N] 32)).alloc (.cells #[.slice y s.length J] 23)):=(ba W3 _).alloc (by simp) _;generalize ab:(W3.alloc (.cells #[.slice A ins.length N] 32)).alloc (.cells #[.slice y s.length J] 23)=W5 at*
 have z:zE w ad.1.size [] [] W5:=I.steps (B:=W3.1.size) (by omega) (by omega) (.gz g);have T:W5.ownsRow w.1.size 5 1 (.slice y s.length J) s.length (gM s):=bP (bP m.e R) g;have⟨aM,X⟩:=eX W3.1.size;have⟨aj,F⟩:=eX ad.1.size;rw[<-X]at an P bm f⊢;rw[<-F]at z f⊢;have aH:=aY an P z T;have:w.1.size+3<=aj:=by omega
 have:y<aj:=by rw[F];exact(m.e.lt y rfl).2
 have:aj<aM:=by omega
 clear f;clear an P I z ab R g T m F X
 gi_wp2
 refine np.one (n:=9) rfl (by omega) (gf:=165) (lb:=#[.pointer aM,.pointer (aM+1:Nat)]) rfl trivial (gH func165 (by kernel_rfl) rfl) (aP _ _) (fun F ak W=>zE w aj F ak W/\W.ownsRow w.1.size 5 1 (.slice y s.length J) s.length (gM s)) (FT w (dA ins s).length) (fun F ak W h=>⟨aa.b.Z h.1.y (av _),CO h.2,fun q R=>by rw[h.1.none]at R;cases R⟩) (fun c F W l ap ar f _ _ aN=>aN.put (by omega)) [] (fun b C=>by cases C) ⟨aH.c,aH.D⟩ ?done ?stop (IZ ins s A y N J aM (aM+1) W5 aa.a (by omega) aH.a aH.b (fun a e aB=>by have:=aa.d a e aB;omega) (fun a e=>by cases e;exact(aH.D.lt y rfl).2) 8) rfl (fun x v W l ap ar f m ae=>Io W l ap ar f m ae) (fun F ak W W' h au=>⟨h.1.steps (by omega) (by omega) au,dJ h.2 fun b e ag=>au.block b ag (.inl (by injection e with e;have:y<W5.1.size:=(aH.D.lt y rfl).2;have e:y=b:=e;omega))⟩) ?a1 ?assign ?body
 case assign=>
  intro l v W K af
  gi_wp2
  exact af
 case body=>
  rintro l F ak x v W z al ⟨b,rfl,ax⟩ bl az;have ab:=z.1.lV.C;have:=z.1.aJ.C;by_cases I:F.length=4096
  .have d0:((F.length:Int)==4096)=true:=by rw[I];rfl
   have bV:=z.1.da.C;have ah:=z.1.ok.C;have f0:=z.1.da.frozen;have f1:=z.1.ok.frozen;have ao:4096<(dA ins s).length:=by have:=al.length_le;simp at this;omega
   have g:=aA z.1 ao;clear z ax al az I ao
   gi_wp2
   refine⟨ak,⟨rfl,(g.a.da.set nS).other (by show _≠_;omega) _,(g.a.ok.other (by show _≠_;omega) _).set _,(g.a.y.setCell (p:=(w.1.size+1:Nat)) (by show w.1.size<=w.1.size+1;omega) _).setCell (p:=(w.1.size+2:Nat)) (by show w.1.size<=w.1.size+2;omega) _,g.B⟩,⟨by simp[World.setCell],fun b C=> .inl C,fun b f m ae=>?_⟩⟩;rw[bm]at f;exact(cP _ _ _ _ (by show b≠w.1.size+2;omega)).t (cP _ _ _ _ (by show b≠w.1.size+1;omega))
  have:((F.length:Int)==4096)=false:=by simp;omega
  have:=z.1.lV.frozen;have:F.length<4096:=by have:=z.1.len;omega
  have g:=H z;clear z ax al az I
  gi_wp2_with fail
  have T:∀q,q≠aj->(W.setCell aj (.int .i64 ((F.length:Int)+1))).1[q]? =W.1[q]?:=fun q R=>cP _ _ _ _ (by show q≠aj;omega);refine⟨[],⟨⟨(T _ (by omega)).t g.a.aJ,(T _ (by omega)).t g.a.da,(T _ (by omega)).t g.a.ok,?_,g.a.y.setCell (p:=aj) (by show w.1.size<=aj;omega) _,rfl,by simp;omega⟩,dJ g.B fun b e ag=>T b (by have e2:y=b:=aR e;omega)⟩,⟨by simp[World.setCell],fun b C=>(by cases C),fun q f m _=>T q (by omega)⟩⟩;rw[dc];exact g.a.lV.set _
 case stop=>
  rintro D c F W aL al ⟨rfl,P,I,X,am⟩ af;have g:=aY P I X am;clear P I X am
  gi_wp2
  have a8:=g.a.C;have aS:=g.b.C;refine⟨by simp,.inl ⟨_,_,rfl,mj af,?_⟩⟩;refine⟨_,yt rfl (fun _=>by kernel_rfl) (fun _=>by kernel_rfl) _ _ (w.1.size+1) (w.1.size+2) _ _ rfl rfl (iR a8 (eC _ D (.deferred none)) (fun r e=>by cases e;exact⟨_,af,rfl⟩)) (iR aS (eC _ D (.deferred none)) (fun r e=>by cases e;exact⟨_,af,rfl⟩)),?_⟩;have bx:=g.D;have⟨_,_,_,_,_,_,bn,a9,_⟩:=aa.y;rw[<-bn]at bx;exact⟨_,by rw[a9,O (by omega)],fun h=>absurd h (by omega),fun _=>rfl,g.c.b (eC _ D _) g.c.size (fun k e=>by cases e;omega)⟩
 case done=>
  rintro D ak W aL z I af;have ab:=z.1.lV.C;have ao:=z.1.len;obtain⟨X,aI⟩:∃n,n=(dA ins s).length:=⟨_,rfl⟩
  rw[<-aI]at ab ao;have bz:aj<W.1.size:=z.1.lV.lt;have g:=aD z I aI;clear z I aI;have⟨bb,aW,bc,aX,bd⟩:=eQ KV
  gi_wp2_with (gi_at_make;refine wpListIn_make_own W rfl _ _ 127 rfl W.1.size 135 bb _ 12 underlying127 aW bc aX .i64 .i64 _ X rfl rfl rfl (by rw[bd];omega) (by unfold maxLen;omega) (av _) ?_;intro am aw ay)
  have M:∀I,I=am.alloc (.cells #[.slice (W.1.size:Nat) 0 X] 127)->BJ w D (I.1.size+2) W.1.size am.1.size X y J s [] [] I/\I.1.size=am.1.size+1/\W.1.size<am.1.size/\Below W.1.size W I:=by
   rintro I rfl;have aG:=g.a.1;have bp:Below W.1.size W am:=(aP _ W).b ay (av _) (fun k e=>by cases e);have aJ:=bp.alloc bp.size (.cells #[.slice (W.1.size:Nat) 0 X] 127);have bF:=aw.alloc (.cells #[.slice (W.1.size:Nat) 0 X] 127);refine⟨⟨(aJ.block _ aG.da.lt).t aG.da,(aJ.block _ aG.ok.lt).t aG.ok,aG.y.t (aJ.m aG.y.size),dE am _ _,fun q R=>(by cases R),(aJ.block _ (gS.1 af).1).t af,bP g.a.2 aJ,[],rfl,ft bF aG.y.size,fun i r cs h=>(by cases h)⟩,by simp,(aw.lt W.1.size rfl).2,aJ⟩
  generalize aE:am.alloc (.cells #[.slice (W.1.size:Nat) 0 X] 127)=I;have⟨aT,aC,bq,a4⟩:=M I aE.s;clear M aE aw ay;refine⟨trivial,?_⟩;refine(dh.2 (LG A y ins.length s.length N J I)).m ?_;rintro e bY ⟨rfl,rfl⟩;have an:Boxed ((I.alloc (.cells #[.slice A ins.length N] 32)).alloc (.cells #[.slice y s.length J] 23)) I.1.size 32 (.slice A ins.length N):=(dE I _ _).alloc _;have P:Boxed ((I.alloc (.cells #[.slice A ins.length N] 32)).alloc (.cells #[.slice y s.length J] 23)) (I.1.size+1) 23 (.slice y s.length J):=by
   have:=dE (I.alloc (.cells #[.slice A ins.length N] 32)) 23 (.slice y s.length J);rwa[cT]at this
  have br:((I.alloc (.cells #[.slice A ins.length N] 32)).alloc (.cells #[.slice y s.length J] 23)).1.size=I.1.size+2:=by simp
  have aE:Below I.1.size I ((I.alloc (.cells #[.slice A ins.length N] 32)).alloc (.cells #[.slice y s.length J] 23)):=(ba I _).alloc (by simp) _;generalize be:(I.alloc (.cells #[.slice A ins.length N] 32)).alloc (.cells #[.slice y s.length J] 23)=W8 at*
  have bG:D<W.1.size:=(gS.1 af).1;have ay:BJ w D (I.1.size+2) W.1.size am.1.size X y J s [] [] W8:=aT.steps (by omega) (by omega) (by omega) (by omega) (by omega) (.gz aE);have⟨aK,aZ⟩:=eX I.1.size;have⟨lb,a0⟩:=eX am.1.size;have⟨M,a3⟩:=eX W.1.size;rw[<-aZ]at an P br ay aC⊢;rw[<-a0]at ay aC bq⊢;rw[<-a3]at ay bq bz bG⊢;have:lb<aK:=by omega
  have aw:=dC an P ay g.C ao g.a.1.y;clear an P aT ay be a4 aE aC aZ a0 a3 ao g ab aW bc aX bd
  gi_wp2
  refine np.one (n:=9) rfl (by omega) (gf:=165) (lb:=#[.pointer aK,.pointer (aK+1:Nat)]) rfl trivial (gH func165 (by kernel_rfl) rfl) (aP _ _) (BJ w D (aK+2) M lb X y J s) (fun _ _ _=>False) (fun F ak W h=>⟨aa.b.Z h.y (av _),CO h.Q,fun q R=>(h.gF q R).2⟩) (fun c F W l ap ar f _ _ aN=>aN.elim) [] (fun b C=>by cases C) aw.c ?done ?stop (IZ ins s A y N J aK (aK+1) W8 aa.a (by omega) aw.a aw.b (fun a e aB=>by have:=aa.d a e aB;omega) (fun a e=>by cases e;exact(aw.c.Q.lt y rfl).2) 8) rfl (fun x v W l ap ar f m ae=>Io W l ap ar f m ae) (fun F ak W W' h au=>by rw[br]at au;exact h.steps (by omega) (by omega) (by omega) (by omega) (by omega) au) ?a2 ?assign ?body
  case assign=>
   intro l v W K af
   gi_wp2
   exact af
  case stop=>
   rintro D c F W aL al h af;exact h.elim
  case body=>
   rintro l F ak x v W z al ⟨b,rfl,ax⟩ bl az;have:F.length<X:=by have:=al.length_le;rw[aw.d];simp at this;omega
   have be:=z.box.C;have g:=aY z ax al (show x.many<=24 from QU aa.a (by obtain⟨t,P⟩:=al;rw[<-P];simp));clear z ax al az;have bs:bh W:=aa.e.Z (g.a.y) (by have:=aa.e.lt;omega)
   gi_wp2
   refine yh (by kernel_rfl) (by kernel_rfl) (fun h=>by obtain⟨_,_,h⟩:=h;exact h) ?_;refine Bo.AO (jY W) (pW W) (show Below _ _ _ from⟨rfl,rfl,rfl,av _,fun _ _=>rfl⟩) 4 (by kernel_rfl) ?_;simp only[st1];refine Bo.i rfl (fun W' P=>by have c:=P.C (p:=lb) (g.a.box.lt);rw[be]at c;simp[execOp,go_sem,c];rfl) ?_;simp only[o];refine Bo.i rfl (fun W' P=>by simp[execOp,go_sem];rfl) ?_;simp only[o];refine wQ (fun v W'=>∃cs:List Value,v= .agg cs.toArray/\iH W' W.1.size (eA x) cs) (fun v=>∃al am ah an ax ao ap ay ab ar az au,v= .agg (mY (.slice al am ah) (.slice an ax ao) (.slice ap ay ab) (.slice ar az au) x.L).toArray) 97 #[.pointer (b:Nat)] rfl rfl (fun W W' h C=>trivial) (fun v W W' ⟨cs,f,m⟩ C=>⟨cs,f,m.Z C⟩) (fun v W ⟨cs,f,aT,aZ,a0,a3,m,aS,aB,aC,aE⟩=>by obtain⟨al,ah,rfl⟩:=bo aS (dr rfl);obtain⟨an,ao,rfl⟩:=bo aB (dr rfl);obtain⟨ap,ab,rfl⟩:=bo aC (dr rfl);obtain⟨ar,au,rfl⟩:=bo aE (dr rfl);exact⟨al,_,ah,an,_,ao,ap,_,ab,ar,_,au,by rw[f,m];rfl⟩) ⟨_,none,0,0,none,0,0,none,0,0,none,0,0,rfl⟩ (fun W=>by simp[execOp,go_sem])
    (fun W' P _=>by
      refine(aa2 b x W' (g.b.Z P g.b.lt) g.D (bs.Z P bs.lt)).m ?_;rintro e a6 ⟨cs,f,m,ae⟩;exact⟨_,f,⟨cs,rfl,m.base P.size⟩,ae⟩) (fun bZ bH=>?_)
   obtain⟨al,am,ah,an,ax,ao,ap,ay,ab,ar,az,au,rfl⟩:=bH;simp only[o];have bt:(mY (.slice al am ah) (.slice an ax ao) (.slice ap ay ab) (.slice ar az au) x.L).toArray=#[.slice al am ah,.slice an ax ao,.slice ap ay ab,.slice ar az au,.int .u8 (Y (x.L 0)),.int .u8 (Y (x.L 1)),.int .u8 (Y (x.L 2)),.int .u8 (Y (x.L 3)),.int .u8 (Y (x.L 4)),.int .u8 (Y (x.L 5)),.int .u8 (Y (x.L 6)),.int .u8 (Y (x.L 7))]:=rfl;refine abF 135 (mY (.slice al am ah) (.slice an ax ao) (.slice ap ay ab) (.slice ar az au) x.L).toArray rfl rfl (fun W'=>by rw[bt];simp[execOp,go_sem]) (fun W W' h C=>⟨trivial,by have⟨cs,f,m⟩:=h.2;exact⟨cs,f,m.Z C⟩⟩) (fun bu=>?_);simp only[o];refine Bo.oQ ?_;intro w9 aB aT;have⟨aZ,a0,aC,a3⟩:=g.a.row;have⟨cs,bf,bv⟩:=aT.1.2;have bf:cs=mY (.slice al am ah) (.slice an ax ao) (.slice ap ay ab) (.slice ar az au) x.L:=by
    have:=Value.agg.inj bf;exact(cg Array.toList this).s
   subst bf;have bI:=g.a.box.lt;have:M<W.1.size:=(aC.lt M rfl).2;have⟨bb,aW,bc,aX,bd⟩:=eQ KV;refine wpList_append_fits w9 rfl (.tmp 39) (.tmp 42) 127 rfl w.1.size 135 bb 12 underlying127 aW aX M F.length X aZ.flatten rfl (bP aC aB) (bu:Nat) 1 1 (mY (.slice al am ah) (.slice an ax ao) (.slice ap ay ab) (.slice ar az au) x.L) rfl (by rw[Qb]) (fun j u P=>by rw[eV,cK,lN w9 bu j _ _ _ aT.2];simpa using P) (fun u P=>by
    unfold mY at P;obtain P|P:=mg.1 P
    .simp only[fI,sV,Cr]at P;obtain rfl|rfl|rfl|rfl:=P<;>rfl
    .unfold JT at P;obtain⟨i,_,rfl⟩:=bX.1 P;rfl) (by omega) ?_
   intro aE bw a4;have P:Boxed aE lb 127 (.slice M F.length X):=by
    have h:=(aB.block lb bI).t g.a.box;refine(a4.block lb (by have:=aB.size;omega) (fun e=>?_)).t h;have e2:lb=M:=aR e;omega
   have:=P.frozen;have:=P.C;have bJ:=dH bw a4 P a0 aC a3 bv;clear bw a4 P aT a0 aC a3 bv bt
   go_wp2_with fail
   have⟨bw,aT,bK,bt,bL,bN,a4⟩:=bJ.y;have P:=g.a;have bO:W.1.size<=aE.1.size:=aO aB.size aT.size;have T:∀q,q≠M->q≠lb->q<W.1.size->(aE.setCell lb (.slice M (F.length+1) X)).1[q]? =W.1[q]?:=fun q f m ae=>
    (cP _ _ _ _ m).t ((aT.block q (by have:=aB.size;omega) (fun e=>f (aR e))).t (aB.block q ae))
   have bQ:∀q,q≠M->q≠lb->q<w9.1.size->(aE.setCell lb (.slice M (F.length+1) X)).1[q]? =w9.1[q]?:=fun q f m ae=>
    (cP _ _ _ _ m).t (aT.block q ae (fun e=>f (aR e)))
   have bv:(aE.setCell lb (.slice M (F.length+1) X)).1.size=aE.1.size:=by simp[World.setCell]
   have b0:w.1.size<=M:=(bL.lt M rfl).1;have bS:Below w w aE:=(P.y.t ((show Below W.1.size W w9 from aB).m P.y.size)).b aT (aO P.y.size aB.size) (fun k e=>by have e2:M=k:=aR e;omega);refine⟨ak++List.range' W.1.size (aE.1.size-W.1.size),⟨(T _ (by omega) (by omega) P.da.lt).t P.da,(T _ (by omega) (by omega) P.ok.lt).t P.ok,bS.setCell (p:=lb) (by show w.1.size<=lb;omega) _,?_,fun q R=>?_,(T _ (by omega) (by omega) (by omega)).t P.mark,dJ P.Q fun b e ag=>T b (by have e2:y=b:=aR e;omega) (by have e2:y=b:=aR e;omega) ag,aZ++[mY (.slice al am ah) (.slice an ax ao) (.slice ap ay ab) (.slice ar az au) x.L],by simp[bt],?_,fun i r cs f m=>?_⟩,⟨by rw[bv];exact bO,fun q R=>?_,fun q f m _=>T q (by omega) (by omega) m⟩⟩
   .rw[dc];exact bK.set _
   .rw[bv];obtain R|R:=mg.1 R
    .have:=P.gF q R;omega
    have:=Cp.1 R;omega
   .rw[dc,Mh,JL];exact dJ bw fun b e ag=>cP _ _ _ _ (by have e2:M=b:=aR e;show b≠lb;omega)
   .rw[tm]at f m;by_cases ao:i<F.length
    .rw[aq ao]at f;rw[aq (by omega)]at m;have⟨an,al⟩:=bN i r cs f m;exact⟨an.same fun b C ag=>T b (by have:=P.gF b (al b C);omega) (by have:=P.gF b (al b C);omega) ag,fun b C=>rP _ (al b C)⟩
    rw[O ao]at f;rw[O (by omega)]at m;have ap:i-F.length=0:=by
     obtain h|h:=Cl (i-F.length)
     .exact h
     rw[od (by simp;omega)]at f;cases f
    rw[ap]at f;rw[bt,ap]at m;have f:=aR f;have m:=aR m;subst f m;refine⟨(a4.base P.y.size).same fun b C ag=>bQ b (by have:=(a4.named C).1;omega) (by have:=(a4.named C).1;omega) ag,fun b C=>AI _ (Cp.2 ?_)⟩;have az:=a4.named C;have:=aT.size;omega
   obtain R|R:=mg.1 R
   .exact .inl R
   have:=Cp.1 R;exact .inr this.1
  rintro ak b1 F b2 z ar au;have be:=z.box.C;have:=z.da.C;have:=z.ok.C;have:=z.da.frozen;have:=z.ok.frozen;have g:=aA z ar;rw[<-aw.d]at be;clear z ar
  gi_wp2_with fail
  have P:=g.a;have⟨aZ,a0,aC,a3⟩:=P.row;have aI:=aw.d;have:w.1.size<=M:=(aC.lt M rfl).1;have:ak<F.1.size:=(gS.1 au).1;have⟨v,z⟩:=eX (Value.slice M X X);rw[<-aI,<-z]at aC;rw[<-z];have T:∀q,q≠w.1.size+1->q≠w.1.size+2->((F.setCell (w.1.size+1:Nat) v).setCell (w.1.size+2:Nat) (.int .i64 0)).1[q]? =F.1[q]?:=fun q f m=>
   (cP _ _ _ _ m).t (cP _ _ _ _ f)
  have:((F.setCell (w.1.size+1:Nat) v).setCell (w.1.size+2:Nat) (.int .i64 0)).1.size=F.1.size:=by simp[World.setCell]
  have ar:=(T ak (by omega) (by omega)).t au;have ax:=(T D (by omega) (by omega)).t P.mark;have a8:=((P.da.set v).other (show w.1.size+1≠w.1.size+2 by omega) (.int .i64 0))
  have aS:=(P.ok.other (show w.1.size+2≠w.1.size+1 by omega) v).set (.int .i64 0);have R:Below w w ((F.setCell (w.1.size+1:Nat) v).setCell (w.1.size+2:Nat) (.int .i64 0)):=(P.y.setCell (p:=(w.1.size+1:Nat)) (by show w.1.size<=w.1.size+1;omega) _).setCell (p:=(w.1.size+2:Nat)) (by show w.1.size<=w.1.size+2;omega) _;change LeavesInM Fence.wide 9 prog f54 _ _ _ .returning ((F.setCell (w.1.size+1:Nat) v).setCell (w.1.size+2:Nat) (.int .i64 0));generalize (F.setCell (w.1.size+1:Nat) v).setCell (w.1.size+2:Nat) (.int .i64 0)=Wf at*
  refine⟨by simp,.inl ⟨_,_,rfl,mj ar,?_⟩⟩;have ay:(Wf.putObj ak (.deferred none)).1[D]? =some (.deferred (some [])):=(dX (by omega)).t ax;refine⟨by simp,.inl ⟨_,_,rfl,mj ay,?_⟩⟩;have n0:Boxed ((Wf.putObj ak (.deferred none)).putObj D (.deferred none)) (w.1.size+1) 127 v:=(dX (by omega)).t ((dX (by omega)).t a8);have am:Boxed ((Wf.putObj ak (.deferred none)).putObj D (.deferred none)) (w.1.size+2) 38 (.int .i64 0):=(dX (by omega)).t ((dX (by omega)).t aS);refine⟨_,yt rfl (fun _=>by kernel_rfl) (fun _=>by kernel_rfl) _ _ (w.1.size+1) (w.1.size+2) _ _ rfl rfl n0.C am.C,?_⟩;have am:∀b,b≠D->b≠ak->b≠w.1.size+1->b≠w.1.size+2->((Wf.putObj ak (.deferred none)).putObj D (.deferred none)).1[b]? =F.1[b]?:=fun b f m ae aN=>
   (dX f).t ((dX m).t (T b ae aN))
  have⟨_,_,_,_,_,_,bn,a9,_⟩:=aa.y;have:=aw.e;refine⟨v,by rw[a9,aq (by omega)],fun _=>⟨aZ,by rw[a0,Jp],?_,fun i p cs f m=>?_⟩,fun h=>by omega,?_⟩
  .rw[Jp,<-aI];exact dJ aC fun b e ag=>am b (by rw[z]at e;have e2:M=b:=aR e;omega) (by rw[z]at e;have e2:M=b:=aR e;omega) (by rw[z]at e;have e2:M=b:=aR e;omega) (by rw[z]at e;have:M=b:=aR e;omega)
  .unfold ru at f;rw[dG]at f;cases ae:(dA ins s)[i]? with
   |none=>rw[ae]at f;cases f
   |some r=>
    rw[ae]at f;obtain rfl:=aR f;have⟨an,al⟩:=a3 i r cs ae m;exact an.same fun b C ag=>by
     have:=P.gF b (al b C);exact am b (by omega) (fun e=>by subst e;exact g.B (al _ C)) (by omega) (by omega)
  exact(R.b (eC _ ak _) R.size (fun k e=>by cases e;omega)).b (eC _ D _) (by have:=R.size;simp[World.putObj];omega) (fun k e=>by cases e;omega)
end
def VU(A)(c)(zs)(x:Int)(w)(s:zs.length<=1000000)(a:fK w A zs):
 Calls prog 168 #[.slice A zs c,x] w fun e n=>(∃r:Int,e=(Value.int .i64 r)/\decide (0<=r)=zs.contains x)/\n=w:=by
 have o:=H a;clear a;go_enter func168,ntmps168;go_wp2
 go_loopw [8] (fun i wr=>∃k:Nat,k<=zs/\i= .int .i64 k/\wr=w/\∀j,j<k->zs.getD j 0≠x) (fun i _=>zs-(intOf i).toNat)
 case atStart=>exact⟨0,aQ _,rfl,rfl,fun j h=>absurd h (jD _)⟩
 obtain⟨k,t,rfl,rfl,g⟩:=hrel;by_cases l:k<zs
 .obtain⟨b,u,rfl,v,m⟩:=o.y (by omega);have p:=m k l;have:(k:Int)<zs:=by omega
  have⟨z,a⟩:=eX (zs.getD k 0);rw[<-a]at p;have f:=aA a g;clear m a g;by_cases a:x=z
  .have y:(x==z)=true:=by simp[a]
   have m:=H a;clear a;go_wp2;go_ret;refine⟨⟨k,rfl,?_⟩,rfl⟩;rw[fB (by omega)];symm;rw[yH];rw[m.y,f.a,bj,aI l]
   grind
  have:(x==z)=false:=by simp[a]
  have:=H a;clear a;go_wp2
  go_roundw
  case rel=>
   refine⟨k+1,by omega,by go_num,trivial,fun j a=>?_⟩;by_cases e:j=k
   .subst e;rw[<-f.a]
    grind
   exact f.B j (by omega)
  simp[intOf];omega
 have q:k=zs:=by omega
 subst q;have f:=H g;clear g;go_wp2;go_ret;refine⟨⟨-1,rfl,?_⟩,rfl⟩;rw[gX (by omega)];symm;rw[xu];intro h;rw[yH]at h;have⟨j,a,e⟩:=iD h;refine f.y j a ?_
 grind
def aeb(A)(c)(zs)(x:Int)(w)(f:zs.length<=1000000)(a:fK w A zs):
 Calls prog 99 #[.slice A zs c,x] w fun e g=>e=(zs.contains x)/\g=w:=by
 have h:=VU A c zs x w f a;clear a;have⟨B,a⟩:=eX (zs.contains x);rw[<-a]at h⊢;clear a;go_enter func99,ntmps99
 go_wp2_with fail
 refine h.m ?_;rintro e j ⟨⟨r,rfl,a⟩,rfl⟩;have i:=H a;clear h a;go_wp2;go_ret;exact⟨cg (fun b=>Ending.returned (.bool b)) i.y,rfl⟩
def QR{W}{base g n}{e}{xs}(h:W.ownsRow base e 1 (.slice g n n) n xs):aj W g e n (fun j=>xs.getD j undef):=by
 obtain⟨a,_⟩|⟨c,f,b,a,i,l,m,o,p,q⟩:=h.2
 .cases a
 have:b=J n (fun j=>xs.getD j undef):=by
  apply Array.toList_inj.1;unfold J;apply C7
  grind
 unfold aj
 grind
def aeI{F}{n}{P:Program}(w:World){ops}{rest}{o}{a}{Q}
 (g:o.guard=none)(l c)(t)(f:o.op=Op.makeSlice t l c)
 (base:Nat)(e)(i:TypeInfo)(z:Value)(size)(h:P.underlying t=some (.slice e))(j:P.info? e=i)(p:i.zero=z)(q:i.size=size)
 (kl kc)(m)(r:a.eval l= .int kl (m:Int))(s:a.eval c= .int kc (m:Int))(u:m*size<=16777216)(v:i.bytes*m<=281474976710656)(x:m<=maxLen)(y:base<=w)
 (A:∀b,b.ownsRow base e size (.slice w m m) m (madeCells z.cells (m*size)).toList->w.grownBy b none->wpListIn F n P ops Q rest (a.put o.dst (.slice w m m)) b):
 wpListIn F n P ops Q (o::rest) a w:=by
 refine xr g fun K C=>?_;have⟨b,E,H,I⟩:=run_makeSlice_full (P:=P) w base t e i z size h j p q kl kc m u v x y;unfold Oper.wpIn;refine⟨?_,?_⟩
 .simp[Oper.about,f]
 rw[oG F _ _ (by grind)];simp[execOp,f,r,s,E,Result.andThen];exact C _ _ (A b H I)
def Bn:(prog.info? 3).map (fun i=>(i.zero,i.size,i.bytes))=some (some (.int .i64 0),1,8):=by kernel_rfl
def SL(A)(n c)(w):
 Calls prog 55 #[.slice A n c] w fun e a=>e= .returned (.func (.func 98) #[] #[.pointer w])/\a=w.alloc (.cells #[.slice A n c] 65):=by
 go_enter func55,ntmps55;go_wp2;go_ret;exact⟨rfl,rfl⟩
def Ii(a:List Nat)(v:Value)(W:World):Prop:=∃g,v= .slice (g:Nat) a.length a.length/\aj W g 3 a.length (fun j=> .int .i64 (a.getD j 0))
def Ra{a}{v}(W)(l)(c i:Obj)(f:W.1[l]? =c)(j:c.isCells=false)(h:Ii a v W):Ii a v (W.putObj l i):=by
 obtain⟨b,rfl,g⟩:=h;refine⟨b,rfl,(dX (fun e=>?_)).t g⟩;subst e;rw[g]at f;cases f;cases j
def Iq(A:Option Addr)(c a:Nat)(ns:List Nat)(b:List Nat)(W:World):Prop:=fK W A (ints ns)/\Boxed W a 65 (.slice A ns.length c)/\∀q∈b,q<W.1.size
def Nb(ns:List Nat)(A:Option Addr)(c ah:Nat)(w0:World)(ai:ns.length<=100000)(au:∀n∈ns,n<=100000000)(u:fK w0 A (ints ns))(P:Boxed w0 ah 65 (.slice A ns.length c))(m:Nat):
 Rg.mH Fence.wide m prog 98 #[.pointer ah] Ii (dL ns) (Iq A c ah ns) w0:=by
 intro a4 aF a5 aG W p r v b o J;have l:Boxed W ah 65 (.slice A ns c):=(p.block _ P.lt).t P;have T:=l.C;have a:=aeb A c (ints ns) 0 W (by rw[iL];omega) (u.Z p (av _));rw[iL]at a;have⟨B,s⟩:=eX W.1.size;rw[<-s]at b o;have⟨xs,z⟩:=eX (dL ns);rw[<-z]at o⊢;have aO:=H au;clear au;have aw:=gQ p r v b o J z u s;clear v b o J l p P r u z s;refine rM func98 rfl trivial ?_ rfl;simp only[ntmps98,jC,gL,iP,Nat.reduceAdd,Nat.reduceSub,j8,j5,kh,kj,gG,iJ]
 gi_wp2_with fail
 first|refine⟨trivial,fun h=>(by cases h),?_⟩|refine⟨trivial,?_⟩
 refine(dh.2 a).m ?_;rintro e ak ⟨rfl,rfl⟩;clear a;have⟨a,aS,aT,aV,aW⟩:=eQ Bn;cases X:(ints ns).contains 0
 .have l:∀n∈ns,0<n:=fun n ai=>by
   obtain e|e:=Cl n
   .subst e;have:(ints ns).contains 0=true:=by
     rw[yH];exact Q6 (f:=fun k:Nat=>(k:Int)) ai
    rw[X]at this;cases this
   exact e
  have aa:=H l;clear l X
  gi_wp2_with (gi_at_make;refine aeI _ rfl _ _ 65 rfl ak 3 a _ 1 underlying65 aS aT aV .i64 .i64 ns rfl rfl (by omega) (by rw[aW];omega) (by unfold maxLen;omega) (av _) ?_;intro I C L)
  have w:aj I ak.1.size 3 ns.length (fun j=> .int .i64 ((ns.map fun _=>0).getD j 0:Nat)):=(QR C).congr fun j E=>by
   show(madeCells #[.int .i64 0] (ns*1)).toList.getD j undef=_;rw[toList_madeCells_one,bj,Jv,aq (by omega)];simp[bj,E]
  have M:=(aP _ ak).b L (av _) (fun k e=>by cases e);have⟨g,F⟩:=eX ak.1.size;have aX:=w.lt;have⟨p,r,v,b,o,J,z,u,s⟩:=aw.y;have N:[]++[ns.map fun _=>0]<+:xs:=by
   have h:=OO (ns:=ns) aa.y;rw[<-z]at h;cases xs with
   |nil=>cases h
   |cons x t=>simp at h;subst h;exact⟨t,rfl⟩
  have Q:=b _ _ _ _ J (.gz M);have R:B=g:=by rw[s,F]
  rw[<-F]at w aX r C⊢;have l:=gQ w N Q r b o v z R;have a6:B<=I:=by omega
  clear p r v b o J z u s w N Q C L M aw T R F
  gi_loopg [4] xs (fun k p wr=>∃(r:List (List Nat))(b:List Nat)(o:List Nat),r++[b]<+:xs/\k+r.length=xs/\aF r o wr/\aj wr g 3 ns (fun j=> .int .i64 (b.getD j 0:Nat))/\g∉o)
  case atStart=>exact⟨[],_,aG,l.b,by simp,l.c,l.a,fun h=>by have:=l.d _ h;omega⟩
  obtain⟨r,b,o,s,w,E,u,C⟩:=hrel;have F:b∈dL ns:=by
   rw[<-l.h];obtain⟨t,v⟩:=s;rw[<-v];simp
  have⟨ab,I⟩:=uM F;have aY:=u.lt;have⟨fn,tmps,assign,body,aH,ax⟩:=l.f r o b (.slice g ns ns) wr E (by have:=l.I;omega) s ⟨g,by rw[ab],by rw[ab];exact u⟩;have p:=dC s w u C ab I;clear s w E u C I F ab
  gi_wp2_with fail
  try(refine⟨fun h=>(by cases h),?_⟩)
  refine ax.m ?_;rintro e W3 (⟨rfl,al,s,o⟩|⟨rfl,aJ⟩)
  .have u:aj W3 g 3 ns (fun j=> .int .i64 (b.getD j 0:Nat)):=(o.keep g (by have:=l.I;omega) aY p.d).t p.c;have w:g∉al:=fun h=>by
    obtain h|h:=o.new g h
    .exact p.d h
    omega
   have ad:=aD s u w;clear s o u w ax aH
   gi_wp2
   gi_loopw [4] (fun i o=>∃k':Nat,k'<=ns/\i= .int .i64 ((k':Int)-1)/\aF (r++[b]) al o/\aj o g 3 ns (fun j=> .int .i64 ((if j<k' then b.getD j 0 else 0:Nat):Int))/\∀(j d n:Nat),k'<=j->b[j]? =d->ns[j]? =n->d+1=n) (fun i _=>((intOf i)+1).toNat)
   case atStart=>exact⟨ns,av _,rfl,ad.a,ad.b.congr fun j E=>by rw[aq E],fun j d n h _ C=>by rw[od h]at C;cases C⟩
   obtain⟨k',a7,rfl,L,F,Q⟩:=hrel;have⟨aK,am,ay⟩:=l.g _ _ _ L;have an:=am.C;have az:=fun d ae=>bO an d ae;have a8:=F.lt;cases k' with
   |zero=>
    have aZ:decide ((0:Int)<= -1)=false:=rfl;rw[show((0:Nat):Int)-1= -1 from rfl];have o:=aD L F Q;clear L F Q aK am ay
    gi_wp2_with fail
    refine wpIn_wide.2 ?_;refine bV (by kernel_rfl) ?_
    repeat(first|go_big_quiet_step (fail)|quiet_step (fail))
    refine qn fun aL w=>?_;have I:=l.e _ _ _ _ o.a (.gz w);have M:=H I;clear w I an az
    gi_wp2
    refine bK (ju rfl _ _ _) rfl ?_;refine⟨⟨_,rfl⟩,.inl ⟨al,?_⟩⟩;have a0:=Jk ns b p.e (fun j d n aB C=>o.C j d n (aQ _) aB C);have⟨t,v⟩:=p.a;have aC:(dL ns)[r.length]? =some b:=by
     rw[<-l.h,<-v,kZ,kB (av _),Dt];rfl
    have s:=Nu aa.y r b aC;rw[a0,<-l.h,<-v]at s;have a1:t=[]:=by
     cases t with
     |nil=>rfl
     |cons y t=>
      rw[kZ,kB (by omega)]at s;simp at s
    rw[<-v,a1,kL];exact M.y
   |succ a=>
    have R:a<ns:=by omega
    rw[show(((a+1:Nat):Int)-1)=(a:Int) by omega];obtain⟨ba,a9,rfl,bb,aE⟩:=aK (by rw[iL];omega);obtain⟨n0,N⟩:∃n0,ns[a]? =some n0:=⟨_,aI R⟩
    obtain⟨d0,T⟩:∃d0,b[a]? =some d0:=⟨_,aI (by rw[p.e];exact R)⟩
    have bc:=p.F a d0 n0 T N;have au:=aO.y n0 (cB N);have ao:=aE a (by rw[iL];exact R);rw[show(ints ns).getD a 0=(n0:Int) by unfold ints;rw[bj,dG,N];rfl]at ao;have af:=F.C a R;rw[aq (by omega),bj,T]at af;simp only[sH]at af;have aM:=fun d ae=>bO ao d ae;have aN:=fun d ae=>bO af d ae;have aZ:(0:Int)<=(a:Int):=by omega
    have bd:(a:Int)<(ns:Int):=by omega
    have be:¬(a:Int)<0:=by omega
    by_cases ap:d0+1=n0
    .have a2:((d0:Int)==(n0:Int)-1)=true:=by simp;omega
     have o:=dC L F Q N T ap;clear L F Q am ay aE N T ap
     gi_wp2_with fail
     refine wpIn_wide.2 ?_;refine bV (by kernel_rfl) ?_
     repeat(first|go_big_quiet_step (fail)|quiet_step (fail))
     refine qn fun aL w=>?_;have I:=l.e _ _ _ _ o.a (.gz w);have u:=o.b.Z w o.b.lt;have f6:=u.free a;have ag:=u.C a R;rw[aq (by omega),bj,o.e]at ag;simp only[sH]at ag;have a3:=u.lt;have M:=aA I u;clear w I u an az ao af aM aN
     gi_wp2
     go_roundw
     case rel=>
      refine⟨a,by omega,by go_num,l.e _ _ _ _ M.a (CI (mL _ _ _ _) (by have:=l.I;omega) ad.C),(M.B.set a _).congr fun j E=>?_,fun j d n aB C ar=>?_⟩
      .unfold aU;by_cases e:j=a
       .rw[aq e,O (by omega)];rfl
       rw[O e];show Value.int .i64 ((if j<a+1 then b.getD j 0 else 0:Nat):Int)=_;by_cases h:j<a
       .rw[aq h,aq (by omega)]
       rw[O h,O (by omega)]
      by_cases e:j=a
      .subst e;have e1:=aR (o.e.s.t C);have e2:=aR (o.d.s.t ar);have:=o.F;omega
      exact o.c j d n (by omega) C ar
     simp[intOf]
    have a2:((d0:Int)==(n0:Int)-1)=false:=by simp;omega
    have o:=dC L F Q N T ap;clear L F Q am ay aE N T ap
    gi_wp2_with fail
    refine wpIn_wide.2 ?_;refine bV (by kernel_rfl) ?_
    repeat(first|go_big_quiet_step (fail)|quiet_step (fail))
    refine qn fun aL w=>?_;have I:=l.e _ _ _ _ o.a (.gz w);have u:=o.b.Z w o.b.lt;have f6:=u.free a;have ag:=u.C a R;rw[aq (by omega),bj,o.e]at ag;simp only[sH]at ag;have a3:=u.lt;have M:=aA I u;clear w I u an az ao af aM aN
    gi_wp2_with fail
    have F:=Uk ns b a p.e (fun j d n aB C ar=>o.c j d n (by omega) C ar) d0 n0 o.e o.d (by have:=o.F;omega);have⟨t,v⟩:=p.a;have aC:(dL ns)[r.length]? =some b:=by
     rw[<-l.h,<-v,kZ,kB (av _),Dt];rfl
    have s:=Nu aa.y r b aC;rw[F,<-l.h,<-v]at s;have⟨nx,u⟩:=eX (b.take a++(d0+1)::List.replicate (b-a-1) 0);rw[<-u]at s;obtain⟨t2,w⟩:∃t2,t=nx::t2:=by
     rw[kZ,kB (by omega)]at s;simp at s;cases t with
     |nil=>simp at s
     |cons y t=>simp at s;exact⟨t,by rw[s]⟩
    have C:r.length+1<xs.length:=by rw[<-v,w];simp
    gi_roundg (gk-1)
    case measure=>have:=p.b;omega
    refine⟨r++[b],nx,al,⟨t2,by rw[<-v,w];simp⟩,by have:=p.b;simp;omega,l.e _ _ _ _ M.a (CI (mL _ _ _ _) (by have:=l.I;omega) ad.C),(M.B.set a _).congr fun j E=>?_,ad.C⟩;unfold aU;have ab:=p.e;by_cases e:j=a
    .subst e;rw[aq rfl,u,bj,kB (by rw[qx];omega),qx,xy (by omega),Dt];rfl
    rw[O e];show Value.int .i64 ((if j<a+1 then b.getD j 0 else 0:Nat):Int)=_;by_cases h:j<a
    .rw[aq (by omega),u,bj,bj,lE (by rw[qx];omega),xE h]
    rw[O (by omega),u,bj,kB (by rw[qx];omega),qx,xy (by omega)];obtain⟨q,b⟩:∃q,j-a=q+1:=⟨j-a-1,by omega⟩
    rw[b,List.getElem?_cons_succ,Jv,aq (by omega)];rfl
  have r:=H aJ;clear aJ ax aH
  gi_wp2
  refine FF (ju rfl _ _ _) rfl ?_;exact⟨⟨_,rfl⟩,.inr ⟨_,p.a,r.y⟩⟩
 have P:0∈ns:=by
  rw[yH]at X;have⟨n,ai,e⟩:=bX.1 X;have:n=0:=by omega
  rwa[this]at ai
 have aa:=H P;clear P X
 gi_wp2
 refine bK (ju rfl _ _ _) rfl ?_;refine⟨⟨_,rfl⟩,.inl ⟨aG,?_⟩⟩;have⟨_,_,_,_,_,J,z,_⟩:=aw.y;rw[z,UR aa.y];exact J
structure aN where
 C:Int
 ev:Ev
def kK(a:List aN)(j:Nat):Int:=match a[j]? with
 |some x=>x.C
 |none=> -1
def a6(x:aN):Nat->Value
 |0=> .int .i64 x.C
 |j+1=>eS x.ev (j+1)
def jX(a:List aN)(i:Nat):Nat->BitVec 64
 |0=>0#64
 |m+1=>jX a i m|||(if i<m/\kK a m=kK a i/\kK a i≠ -1 then Bv.bit m else 0#64)
def ab0(F)(i m)(h:m<=i+1):jX F i m=0#64:=by
 induction m with
 |zero=>rfl
 |succ m a=>unfold jX;rw[a (by omega),O (by omega)];simp
def adV(F)(i m)(h:kK F i= -1):jX F i m=0#64:=by
 induction m with
 |zero=>rfl
 |succ m a=>unfold jX;rw[a,O (by omega)];simp
def pO(a:List aN)(k:Nat):Rl.Rows:=fun i=>if i<k then jX a i a.length else 0#64
def oP(a:List aN):Rl.Rows:=pO a a.length
def T9(F)(k):ew (pO F k) k (jX F k F)=pO F (k+1):=by
 unfold ew pO
 grind
def Tx(F)(k):ew (pO F k) k 0#64=pO F k:=by
 unfold ew pO
 grind
def SI(f)(k)(a b):ew (ew f k a) k b=ew f k b:=by
 unfold ew
 grind
section
def eG(W:World)(A:Option Addr)(a:List aN):Prop:=
 0<a.length->∃b c,A=some ⟨b,c,none⟩/\b<W.1.size/\∀i x,a[i]? =some x->∀j,j<7->W.cell? ⟨b,c+i*7+j,none⟩=some (a6 x j)
def eG.Z{n}{W W'}{A}{F}(h:eG W A F)(f:Below n W W')(y:W<=n):eG W' A F:=by
 intro g;obtain⟨b,off,rfl,o,r⟩:=h g;exact⟨b,off,rfl,aW o f.size,fun i x u j w=>(f.C (p:=⟨b,off+i*7+j,none⟩) (by grind)).t (r i x u j w)⟩
def Cj{W:World}{b o}{x}(h:∀j,j<7->W.cell? ⟨b,o+j,none⟩=some (a6 x j)):W.rangeAt b o ((List.range 7).map (a6 x)):=by
 intro j v a
 grind
def sQ(x)(i):(a6 x i).oneCell'=true:=by cases i with
 |zero=>rfl
 |succ i=>exact Ij _ _
attribute [local go_sem] Bv.fE Bv.fO Bv.fA Bv.fL Bv.fC Bv.gn Bv.fP Bv.fQ
def QK(A:Option Addr)(c:Nat)(a:List aN)(w:World)(ag:a.length<=48)(f:eG w A a):
 Calls prog 64 #[.slice A a c] w (Rs (ar a.length (oP a)) w):=by
 have:=jk;have:=y9;have l:=aG.new w 0 E;have b:=aG.new (w.alloc (.cells (ar 0 E) 53)) 0 E;rw[cT]at b;have N:=aD (l.alloc (.cells (ar 0 E) 53)) b f;clear l b f;go_enter func64,ntmps64
 go_wp2_with (refine fY rfl (.tmp 3) (.tmp 9) rfl (w+1) a 0 E E rfl rfl N.b ?_;intro g b f)
 have P:=aD (N.a.K f (sn (by omega))) b (show Below w w g from((ba w _).alloc (by simp) _).b f (by simp;omega) (fun j e=>by cases e;omega));clear b f
 go_loopw [12] (fun c wr=>∃k:Nat,k<=a/\c= .int .i64 k/\aG wr (w+1) a (pO a k)/\aG wr w 0 E/\Below w w wr) (fun c _=>a-(intOf c).toNat)
 case atStart=>exact⟨0,aQ _,rfl,P.b,P.a,P.C⟩
 obtain⟨k,ah,rfl,q,l,n⟩:=hrel;have⟨g,ad⟩:=eX wr;subst ad;by_cases ae:k<a
 .obtain⟨s,t,rfl,ai,b⟩:=N.C (by omega);obtain⟨x,o⟩:∃x,a[k]? =some x:=⟨_,aI ae⟩
  have:(k:Int)<a:=by omega
  have:Below g g (g.alloc (.cells #[.int .i64 0,.int .u8 0,.int .u8 0,.int .u8 0,.int .u8 0,.int .u8 0,.int .u8 0] 143)):=ba g _;have:=q.lt;have f:=dH q l n o (show g.rangeAt s (t+k*7) ((List.range 7).map (a6 x))from Cj fun j r=>(n.C (p:=⟨s,t+k*7+j,none⟩) (by show s<w.1.size;omega)).t (b k x o j r)) (show aj (g.alloc (.cells #[.int .i64 0,.int .u8 0,.int .u8 0,.int .u8 0,.int .u8 0,.int .u8 0,.int .u8 0] 143)) g 143 7 (eS jN)from aj.dq _ _ _ _ _ rfl) b;clear q l n o b;have b:kK a k=x.C:=by unfold kK;rw[f.d]
  have I:=H b;clear b;by_cases r:x.C= -1
  .have ak:(x.C== -1)=true:=by simp[r]
   have Q:=H r;clear r
   go_wp2_with (first|(refine iI rfl 143 (.tmp 15) rfl s (t+k*7) rfl ((List.range 7).map (a6 x)) _ f.e iy rfl eH (h:=?_))|(refine eP rfl 143 (.tmp 5) (.tmp 16) rfl g 0 7 7 143 (eS jN) (a6 x) rfl rfl f.f (dr rfl) eH (fun i _=>sQ _ _) (h:=?_);intro u v z;have o:aj u g 143 7 (a6 x):=v.congr (fun i C=>by unfold bm;rw[aq ⟨by omega,by omega⟩,ez]);have L:u.cell? g=some x.C:=o.C 0 (dr rfl);have b:=fJ z;have J:=aA o b;clear v z o b))
   go_roundw
   case rel=>
    have b:=J.B;refine⟨k+1,by omega,by go_num,?_,f.b.Z b f.b.lt,f.c.t (b.m f.c.size)⟩;have h:=f.a.Z b f.a.lt;have e:=T9 a k;rw[adV a k _ (by rw[I.y];exact Q.y),Tx]at e;rw[<-e];exact h
   simp[intOf];omega
  have:(x.C== -1)=false:=by simp[r]
  have Q:=H r;clear r
  go_wp2_with (first|(refine iI rfl 143 (.tmp 15) rfl s (t+k*7) rfl ((List.range 7).map (a6 x)) _ f.e iy rfl eH (h:=?_))|(refine eP rfl 143 (.tmp 5) (.tmp 16) rfl g 0 7 7 143 (eS jN) (a6 x) rfl rfl f.f (dr rfl) eH (fun i _=>sQ _ _) (h:=?_);intro u v z;have o:aj u g 143 7 (a6 x):=v.congr (fun i C=>by unfold bm;rw[aq ⟨by omega,by omega⟩,ez]);have:u.cell? g=some x.C:=o.C 0 (dr rfl);have b:=fJ z;have J:=aA o b;clear v z o b))
  have b:=J.B
  go_loopw [6] (fun j C=>∃m:Nat,k+1<=m/\m<=a/\j= .int .i64 m/\aG C (w+1) a (ew (pO a k) k (jX a k m))/\aG C w 0 E/\Below w w C/\aj C g 143 7 (a6 x)) (fun j _=>a-(intOf j).toNat)
  case atStart=>
   refine⟨k+1,av _,by omega,by go_num,?_,f.b.Z b f.b.lt,f.c.t (b.m f.c.size),J.a⟩;rw[ab0 a k _ (av _),Tx];exact f.a.Z b f.a.lt
  obtain⟨m,al,am,rfl,q,l,n,u⟩:=hrel;by_cases af:m<a
  .obtain⟨y,J⟩:∃y,a[m]? =some y:=⟨_,aI af⟩
   have L:kK a m=y.C:=by unfold kK;rw[J]
   have R:wr.cell? ⟨s,t+m*7,none⟩=some (.int .i64 y.C):=(n.C (p:=⟨s,t+m*7,none⟩) (by show s<w.1.size;omega)).t (by have:=f.G m y J 0 (dr rfl);rw[vY]at this;exact this);have T:wr.cell? g=some x.C:=u.C 0 (dr rfl);have X:=fun d W=>bO R d W;have aa:=fun d W=>bO T d W;have an:(m:Int)<a:=by omega
   have:=n.size;by_cases v:y.C=x.C
   .have ao:(y.C==x.C)=true:=by simp[v]
    have b:=dC q l n u L v;clear q l n u L v J
    go_wp2_with fail
    refine bV (by kernel_rfl) ?_
    repeat(first|go_big_quiet_step (fail)|quiet_step (fail))
    refine qn fun z r=>?_;have M:=b.a.Z r b.a.lt;have cr:=M.row k (by omega);have ab:=M.free (1+k);have o:=aY M (b.b.Z r b.b.lt) (b.c.t (r.m b.c.size)) (b.d.Z r b.d.lt);rw[show ew (pO a k) k (jX a k m) k=jX a k m by unfold ew;rw[aq rfl]]at cr;have:(k:Int)<48:=by omega
    have:(0:Int)<=(k:Int):=by omega
    have:¬((m:Int)<0):=by omega
    clear r M R T X aa;go_wp2;go_still_tail 9,(by kernel_rfl)
    change wpList _ _ _ _ _ z.drew;have:z.drew.cell? ⟨w+1,1+k,none⟩=some (.int .u64 (Bv.U (jX a k m))):=cr;have:z.drew.frozen? ⟨w+1,1+k,none⟩=false:=ab;have M:=aY (o.a.drew) (o.b.drew) (show Below w w z.drew from⟨o.c.os,o.c.tape,o.c.output,o.c.size,o.c.block⟩) o.D.drew;clear cr ab;generalize z.drew=ab at*
    go_step
    go_wp2
    go_roundw
    case rel=>
     refine⟨m+1,by omega,by omega,by go_num,?_,M.b.other _ _ (by show w.1.size≠w+1;omega),M.c.setCell (p:=⟨w+1,1+k,none⟩) (by show w.1.size<=w+1;omega) _,M.D.other _ _ (by show g.1.size≠w+1;omega)⟩;have e:jX a k (m+1)=jX a k m|||Bv.bit m:=by
      rw[jX,aq ⟨by omega,by rw[b.e,I.y];exact b.F,by rw[I.y];exact Q.y⟩]
     rw[e,<-SI _ _ (jX a k m)];exact M.a.set k _
    simp[intOf];omega
   have:(y.C==x.C)=false:=by simp[v]
   have b:=dC q l n u L v;clear q l n u L v J
   go_wp2_with fail
   refine bV (by kernel_rfl) ?_
   repeat(first|go_big_quiet_step (fail)|quiet_step (fail))
   refine qn fun z r=>?_;have o:=aY (b.a.Z r b.a.lt) (b.b.Z r b.b.lt) (b.c.t (r.m b.c.size)) (b.d.Z r b.d.lt);clear r R T X aa;go_wp2
   go_roundw
   case rel=>
    refine⟨m+1,by omega,by omega,by go_num,?_,o.b,o.c,o.D⟩;have e:jX a k (m+1)=jX a k m:=by
     rw[jX,O (by rintro⟨_,r,_⟩;rw[b.e,I.y]at r;exact b.F r)];simp
    rw[e];exact o.a
   simp[intOf];omega
  have r:m=a:=by omega
  subst r;have:¬((a:Int)<a):=by omega
  have b:=aD q l n;clear q l n u;go_wp2
  go_roundw
  case rel=>exact⟨k+1,by omega,by go_num,by rw[<-T9];exact b.a,b.b,b.C⟩
  simp[intOf];omega
 have u:k=a:=by omega
 subst u;have f:=aD q l n;clear q l n
 go_wp2_with (first|(refine kk rfl (.tmp 3) rfl (w+1) a (pO a a) rfl f.a ?_)|(refine fY rfl (.tmp 2) (.tmp 46) rfl w a 0 (pO a a) E rfl rfl f.b ?_;intro C l n))
 refine bK (qC rfl _ _ w 53 (ar a (oP a)) (0,0) _ rfl l gT rfl (jT _ _)) rfl ⟨rfl,f.C.b n f.C.size (fun j e=>by cases e;omega)⟩
end
def eU(f:Rl.Rows)(a:Nat):List (Nat×Nat)->Rl.Rows
 |[]=>f
 |p::ps=>eU (ew f (a+p.1) (f (a+p.1)|||Bv.bit (a+p.2))) a ps
def abP(f)(off)(ps)(p):eU f off (ps++[p])=ew (eU f off ps) (off+p.1) (eU f off ps (off+p.1)|||Bv.bit (off+p.2)):=by
 induction ps generalizing f with
 |nil=>rfl
 |cons q ps a=>exact a _
def jI(g:Nat->Value)(a:Nat)(f:Rl.Rows):Nat->Value:=fun i=>if a+1<=i/\i<a+49 then .int .u64 (Bv.U (f (i-a-1)))else g i
def PU(g)(o)(f)(k)(a:k<48):jI g o f (o+1+k)= .int .u64 (Bv.U (f k)):=by
 unfold jI
 grind
def Lf(g)(o)(f)(k)(a:k<48)(s)(i):aU (jI g o f) (o+1+k) (.int .u64 (Bv.U s)) i=jI g o (ew f k s) i:=by
 unfold aU jI ew
 grind
section
def zZ(W:World)(A:Option Addr)(ps:List (Nat×Nat)):Prop:=
 0<ps.length->∃b a,A=some ⟨b,a,none⟩/\b<W.1.size/\∀i p,ps[i]? =some p->W.cell? ⟨b,a+i*2,none⟩=some (.int .u8 p.1)/\W.cell? ⟨b,a+i*2+1,none⟩=some (.int .u8 p.2)
attribute [local go_sem] Bv.fE Bv.fO Bv.fA Bv.fL Bv.fC Bv.gn Bv.fP Bv.fQ
def Z0(b j n:Nat)(t:TypeId)(g:Nat->Value)(f:Rl.Rows)(A:Option Addr)(c:Nat)(ps:List (Nat×Nat))(l:Nat)(w:World)(o:aj w b t n g)(af:j+49<=n)(Q:∀i,i<48->g (j+1+i)= .int .u64 (Bv.U (f i)))
 (T:zZ w A ps)(W:∀a,A=some a->a.block≠b)(m:∀p∈ps,l+p.1<48/\l+p.2<48/\p.1<256/\p.2<256)(q:ps.length<=100000):
 Calls prog 101 #[.pointer (some ⟨b,j,none⟩),.slice A ↑ps c,.int .i64 l] w fun e E=>e= .returned (.tuple #[])/\aj E b t n (jI g j (eU f l ps))/\w.grownBy E (some b):=by
 have X:aj w b t n (jI g j f):=o.congr fun i ag=>by
  unfold jI;by_cases h:j+1<=i/\i<j+49
  .rw[aq h,<-Q (i-j-1) (by omega),show j+1+(i-j-1)=i by omega]
  rw[O h]
 have r:=aY X T W m;go_enter func101,ntmps101;go_wp2
 go_loopw [10] (fun i wr=>∃k:Nat,k<=ps/\i= .int .i64 k/\aj wr b t n (jI g j (eU f l (ps.take k)))/\w.grownBy wr (some b)) (fun i _=>ps-(intOf i).toNat)
 case atStart=>exact⟨0,aQ _,rfl,by simpa[eU]using r.a,⟨rfl,rfl,rfl,av _,fun _ _ _=>rfl⟩⟩
 obtain⟨k,ah,rfl,o,s⟩:=hrel;by_cases aa:k<ps
 .obtain⟨u,v,rfl,F,H⟩:=r.b (by omega);obtain⟨p,x⟩:∃p,ps[k]? =some p:=⟨_,aI aa⟩
  have⟨ai,ak,al,am⟩:=r.D p (cB x);have I:=r.c _ rfl;have:wr.cell? ⟨u,v+k*2,none⟩=some (.int .u8 p.1):=by rw[s.cell_far ⟨u,v+k*2,none⟩ F (fun e=>I (aR e))];exact(H k p x).1
  have:wr.cell? ⟨u,v+k*2+1,none⟩=some (.int .u8 p.2):=by rw[s.cell_far ⟨u,v+k*2+1,none⟩ F (fun e=>I (aR e))];exact(H k p x).2
  have ab:ps.take (k+1)=ps.take k++[p]:=by rw[jd,x];rfl
  have⟨y,J⟩:=eX (eU f l (ps.take k));rw[<-J]at o;have:(k:Int)<ps:=by omega
  have m:=aY o s ab J;have:=o.lt;have ad:∀W3,W3=wr.alloc (.cells #[.int .u8 p.1,.int .u8 p.2] 275)->aj W3 b t n (jI g j y)/\W3.cell? wr=some (.int .u8 p.1)/\W3.cell? ⟨wr,1,none⟩=some (.int .u8 p.2)/\w.grownBy W3 (some b):=by
   rintro W3 rfl;have L:=jZ wr (.cells #[.int .u8 p.1,.int .u8 p.2] 275);exact⟨m.a.alloc _,by rw[lN _ _ 0 _ _ _ L];rfl,by rw[lN _ _ 1 _ _ _ L];rfl,m.b.t (rn _ _ b)⟩
  go_wp2_with fail
  generalize an:wr.alloc (.cells #[.int .u8 p.1,.int .u8 p.2] 275)=W3 at*
  have⟨z,ao,ap,q⟩:=ad W3 rfl;have⟨R,M⟩:=eX (l+p.1);have⟨S,N⟩:=eX (l+p.2);have:(l:Int)+(p.1:Int)=(R:Int):=by omega
  have:(l:Int)+(p.2:Int)=(S:Int):=by omega
  have:IntKind.i64.wrap (p.1:Int)=(p.1:Int):=by rw[nk];omega
  have:IntKind.i64.wrap (p.2:Int)=(p.2:Int):=by rw[nk];omega
  have:IntKind.i64.wrap ((l:Int)+(p.1:Int))=(R:Int):=by rw[nk];omega
  have:IntKind.i64.wrap ((l:Int)+(p.2:Int))=(S:Int):=by rw[nk];omega
  have:IntKind.i64.wrap (R:Int)=(R:Int):=by rw[nk];omega
  have:IntKind.i64.wrap (S:Int)=(S:Int):=by rw[nk];omega
  have:(0:Int)<=(R:Int):=by omega
  have:(R:Int)<48:=by omega
  have:¬(S:Int)<0:=by omega
  have P:R<48:=by omega
  have cr:W3.cell? ⟨b,j+1+R,none⟩=some (.int .u64 (Bv.U (y R))):=by
   have:=z.C (j+1+R) (by omega);rwa[PU _ _ _ _ P]at this
  have ae:W3.frozen? ⟨b,j+1+R,none⟩=false:=z.free _;have C:=aY z.drew (show w.grownBy W3.drew (some b)from⟨q.os,q.tape,q.output,q.size,q.block⟩) M N;clear z q M N;go_still_tail 20,(by kernel_rfl)
  change wpList _ _ _ _ _ W3.drew;have:W3.drew.frozen? ⟨b,j+1+R,none⟩=false:=ae;have:W3.drew.cell? ⟨b,j+1+R,none⟩=some (.int .u64 (Bv.U (y R))):=cr;generalize W3.drew=z at*
  go_step
  go_wp2;refine⟨⟨k+1,by omega,by go_num,?_,C.b.t (mL _ _ _ _)⟩,by simp[intOf];omega⟩;rw[m.c,abP,<-m.D,<-C.c,<-C.D];exact(C.a.set _ _).congr fun i _=>Lf g j y R P _ i
 have q:k=ps:=by omega
 subst q;have m:=aA o s;go_wp2
 go_end0
 rw[nH]at m;exact⟨rfl,m.y⟩
end
def iu(n:Int)(i:Nat):Value:=if i=0 then nS else if i<295 then(if(i-1)%49=0 then .int .i64 n else .int .u64 0)else .int .u8 0
def FN(w):(zeroValue 60).run prog w= .ok (J 333 (iu 0)) w:=by kernel_rfl
def aap(n:Int)(w:World):(Instr.build 60 #[(1,.agg (ar n E)),(2,.agg (ar n E)),(3,.agg (ar n E)),(4,.agg (ar n E)),(5,.agg (ar n E)),(6,.agg (ar n E))]).run prog w= .ok (J 333 (iu n)) w:=by kernel_rfl
def pV:(prog.info? 60).map (·.size)=some 333:=by kernel_rfl
def vM:prog.underlying 60=some (.struct (prog.fieldsOf 60)):=by kernel_rfl
def agF(n:Int)(i:Nat):(iu n i).oneCell'=true:=by
 unfold iu;split
 .rfl
 split
 .split<;>rfl
 rfl
attribute [irreducible] iu
def BG{P}{ops}{rest}{op}{a}{w}{Q}(b:op.guard=none)(ty)(ps)(f:op.op= .build ty ps)(v)(c:(execOp a.eval op).run P w= .ok (.value v) w)
 (h:wpList P ops Q rest (a.put op.dst v) w):wpList P ops Q (op::rest) a w:=by
 refine Ca b fun _ e=>?_;unfold Oper.wp;rw[c];exact e _ _ h
def UO(n)(ev)(o)(w)(a:o.op= .build 60 #[(1,.tmp 6),(2,.tmp 7),(3,.tmp 8),(4,.tmp 9),(5,.tmp 10),(6,.tmp 11)])
 (b:ev (.tmp 6)= .agg (ar n E))(c:ev (.tmp 7)= .agg (ar n E))(e:ev (.tmp 8)= .agg (ar n E))(f:ev (.tmp 9)= .agg (ar n E))(g:ev (.tmp 10)= .agg (ar n E))(h:ev (.tmp 11)= .agg (ar n E)):
 (execOp ev o).run prog w= .ok (.value (J 333 (iu n))) w:=by
 unfold execOp;simp only[a,xY,nR,pR,b,c,e,f,g,h,eD,(aap n w),eY,eZ]
def Xo(n:Nat)(w)(s:n<=48):
 Calls prog 100 #[.int .i64 n] w (Rs (J 333 (iu n)) w):=by
 have m:=jk;have p:=FN;have q:=y9;have b:aj (w.alloc (.cells (J 333 (iu 0)) 60)) w 60 333 (iu 0):=aj.new _ _ _ _;have a:=aG.new (w.alloc (.cells (J 333 (iu 0)) 60)) 0 E;rw[cT]at a;have c:=aA (b.alloc (.cells (ar 0 E) 53)) a;clear b a;go_enter func100,ntmps100
 go_upto_region 2 with(first|(refine fY rfl (.tmp 3) (.tmp 5) rfl (w+1) n 0 E E rfl rfl c.B ?_;intro r a f;have g:=c.a.K f (by grind);have l:=((ba w _).alloc (by simp) _).b f (by simp;omega) (fun j e=>by grind);have b:=aD a g l;clear a f g l))
 refine wp_region_lit ?_
 iterate 6(refine kk rfl (.tmp 3) rfl (w+1) n E rfl b.a ?_;simp only[o])
 refine BG rfl 60 #[(1,.tmp 6),(2,.tmp 7),(3,.tmp 8),(4,.tmp 9),(5,.tmp 10),(6,.tmp 11)] rfl (J 333 (iu n)) (UO n _ _ r rfl rfl rfl rfl rfl rfl rfl) ?_;simp only[o];refine eP rfl 60 (.tmp 2) (.tmp 12) rfl w 0 333 333 60 (iu 0) (iu n) rfl rfl b.b (dr rfl) pV (fun i _=>agF _ _) (h:=?_);intro l a f;have g:=aA (a.congr (fun i t=>by unfold bm;rw[aq ⟨by omega,by omega⟩,ez])) (b.C.b f b.C.size (fun j e=>by grind));clear a f p m q c;go_wp2;refine bK (mT rfl _ g.a _ rfl vM rfl pV) rfl ?_;exact⟨rfl,g.B⟩
def rh(l:List Nat):List (Nat×Nat):=((List.range l.length).map fun i=>(i,l.getD i 0)).reverse
def Uz(l):(rh l)=l.length:=by unfold rh;simp
def Xf(l:List Nat)(k:Nat)(a:k<l):(rh l).take (l-(k+1))++[(k,l.getD k 0)]=(rh l).take (l-k):=by
 rw[show l.length-k=(l-(k+1))+1 by omega,jd];unfold rh
 grind
def Y2(A)(n c)(w):
 Calls prog 106 #[.slice A n c] w fun e a=>e= .returned (.func (.func 174) #[] #[.pointer w])/\a=w.alloc (.cells #[.slice A n c] 65):=by
 go_enter func106,ntmps106;go_wp2;go_ret;exact⟨rfl,rfl⟩
def afQ(x:Nat×Nat)(v u:Value)(a:World):Prop:=v= .int .i64 x.1/\u= .int .i64 x.2
def ags(ns:List Nat)(A:Option Addr)(c j:Nat)(w0:World)(F:ns.length<=100000)(t:fK w0 A (ints ns))(g:Boxed w0 j 65 (.slice A ns.length c))(m:Nat):
 qc.mH Fence.wide m prog 174 #[.pointer (j:Nat)] afQ (rh ns) [] (Iq A c j ns) w0:=by
 intro I w J x W n u o l a p;have q:Boxed W j 65 (.slice A ns.length c):=(n.block _ g.lt).t g;have:=q.C;have⟨B,r⟩:=eX W.1.size;rw[<-r]at l a;have⟨xs,f⟩:=eX (rh ns);have s:xs.length=ns.length:=by rw[f,Uz]
 rw[<-f]at a⊢;have y:B<=W.1.size:=by omega
 have b:=dC o l a p f s;clear o l a p q n g u t f r s;refine rM func174 rfl trivial ?_ rfl;simp only[ntmps174,jC,gL,iP,Nat.reduceAdd,Nat.reduceSub,j8,j5,kh,kj,gG,iJ]
 gi_wp2
 gi_loopw [3] (fun i wr=>∃(k:Nat)(l:List Nat),k<=ns.length/\i= .int .i64 ((k:Int)-1)/\w (xs.take (ns.length-k)) l wr/\B<=wr.1.size) (fun i _=>((intOf i)+1).toNat)
 case atStart=>exact⟨ns.length,x,av _,rfl,by rw[Dt];exact b.d,y⟩
 obtain⟨k,l,L,rfl,f,r⟩:=hrel;have⟨o,p,s⟩:=b.a _ _ _ f;have:=p.C;cases k with
 |zero=>
  rw[show((0:Nat):Int)-1= -1 from rfl];have C:=H f;clear f o p s
  gi_wp2
  refine FF (ju rfl _ _ _) rfl ?_;refine⟨⟨_,rfl⟩,.inl ⟨l,?_⟩⟩;have h:=C.y;rw[ez,sl (by rw[b.F];exact av _)]at h;exact h
 |succ a=>
  have t:a<ns.length:=by omega
  rw[show(((a+1:Nat):Int)-1)=(a:Int) by omega];obtain⟨ba,M,rfl,N,u⟩:=o (by rw[iL];omega);have E:=u a (by rw[iL];exact t);have⟨z,q⟩:=eX (ns.getD a 0);rw[show(ints ns).getD a 0=(z:Int) by rw[q];unfold ints;rw[bj,bj,dG];cases h:ns[a]?<;>rfl]at E;have g:=Xf ns a t;rw[<-b.e,<-q]at g;have⟨fn,tmps,assign,body,v,n⟩:=b.c _ l (a,z) (.int .i64 a) (.int .i64 z) wr f r (by rw[g];exact List.take_prefix _ _) ⟨rfl,rfl⟩;rw[g]at n;have:(0:Int)<=(a:Int):=by omega
  have:(a:Int)<ns.length:=by omega
  have:=H g;clear f o p s g q u
  gi_wp2_with fail
  try(refine⟨fun h=>(by cases h),?_⟩)
  refine n.m ?_;rintro e W3 (⟨rfl,p,f,g⟩|⟨rfl,l⟩)
  .have o:=aA f (aO r g.size);clear f g n v
   gi_wp2
   go_roundw
   case rel=>exact⟨a,p,by omega,by go_num,o.a,o.B⟩
   simp[intOf]
  have f:=H l;clear l n v
  gi_wp2
  refine bK (ju rfl _ _ _) rfl ?_;exact⟨⟨_,rfl⟩,.inr ⟨_,List.take_prefix _ _,f.y⟩⟩
def kg(f:Rl.Rows):List Nat->Rl.Rows×BitVec 64
 |[]=>(f,0#64)
 |a::l=>(ew (kg f l).1 a (kg f l).2,(kg f l).2|||Bv.bit a)
def aca{l}{a:List (Nat×Nat)}{x}(h:a++[x]<+:rh l):∃k,k+a.length+1=l/\x=(k,l.getD k 0):=by
 obtain⟨t,c⟩:=h;have b:(rh l)[a.length]? =x:=by grind
 unfold rh at b
 grind
def XD(l:List Nat)(k:Nat)(h:k<l):l.drop k=l.getD k 0::l.drop (k+1):=by
 simp_all
section
structure Di(w:World)(b o n:Nat)(t:TypeId)(g:Nat->Value)(f:Rl.Rows)(A:Option Addr)(c:Nat)(ls:List Nat)(pre:List (Nat×Nat))(fp:List Nat)(W:World):Prop where
 Jh:fp=[]
 r:aj W b t n (jI g o (kg f (ls.drop (ls.length-pre.length))).1)
 ptr:Boxed W w.1.size 145 (.pointer (some ⟨b,o,none⟩))
 yv:Boxed W (w.1.size+1) 50 (.int .u64 (Bv.U (kg f (ls.drop (ls.length-pre.length))).2))
 box:Boxed W (w.1.size+2) 65 (.slice A ls.length c)
 ints:fK W A (ints ls)
 b:w.grownBy W (some b)
def Di.steps{w}{b o n}{t}{g}{f}{A}{c}{ls}{pre}{fp}{W W'}{B:Nat}(h:Di w b o n t g f A c ls pre fp W)(u:b<w)(J:w+3<=B)(L:∀a,A=some a->a.block<w)(r:Rg.Steps B fp W W'):Di w b o n t g f A c ls pre fp W':=by
 have key:∀{q:Nat}{t:TypeId}{v:Value},q<B->Boxed W q t v->Boxed W' q t v:=fun u h=>(r.block _ h.lt (.inl u)).t h;refine⟨h.Jh,(r.block _ h.r.lt (.inl (by omega))).t h.r,key (by omega) h.ptr,key (by omega) h.yv,key (by omega) h.box,?_,?_⟩
 .intro E;obtain⟨ab,F,rfl,y,H⟩:=h.ints E;refine⟨ab,F,rfl,aW y r.size,fun i hi=>?_⟩;rw[<-H i hi];exact uW (w:=W) (r.block ab y (.inl (by grind)))
 exact⟨r.os.t h.b.os,r.tape.t h.b.tape,r.output.t h.b.output,aO h.b.size r.size,fun k C I=>(r.block k (aW C h.b.size) (.inl (by omega))).t (h.b.block k C I)⟩
attribute [local go_sem] Oper.semAt_some Bv.fE Bv.fO Bv.fA Bv.fL Bv.fC Bv.gn Bv.fP Bv.fQ
def QT(b j n)(t)(g)(f)(A)(c)(ls)(w)(O:aj w b t n g)(aN:j+49<=n)(C:∀i,i<48->g (j+1+i)= .int .u64 (Bv.U (f i)))
 (m:fK w A (ints ls))(r:∀a,A=some a->a.block≠b/\a.block<w.1.size)(y:∀x∈ls,x<48)(E:ls.length<=100000):
 Calls prog 60 #[.pointer (some ⟨b,j,none⟩),.slice A ls c] w fun e al=>e=(Value.tuple #[])/\aj al b t n (jI g j (kg f ls).1)/\w.grownBy al (some b):=by
 have z:aj w b t n (jI g j f):=O.congr fun i am=>by
  unfold jI
  grind
 have an:=O.lt;have R:=aY z m r y;clear O z m r y C;refine(dh (n:=9)).1 ?_;refine sZ func60 rfl trivial ?_ rfl;simp only[ntmps60,jC,gL,iP,Nat.reduceAdd,Nat.reduceSub,j8,j5,kh,kj,gG,iJ]
 gi_wp2_with fail
 have m:∀J,J=(w.alloc (.cells #[.pointer (some ⟨b,j,none⟩)] 145)).alloc (.cells #[.int .u64 0] 50)->
  ∀P,P=J.alloc (.cells #[.slice A ls c] 65)->Di w b j n t g f A c ls [] [] P/\J.1.size=w+2/\P.1.size=w+3:=by
  rintro J rfl P rfl;have ao:=dE (w.alloc (.cells #[.pointer (some ⟨b,j,none⟩)] 145)) 50 (.int .u64 0);have ap:=dE ((w.alloc (.cells #[.pointer (some ⟨b,j,none⟩)] 145)).alloc (.cells #[.int .u64 0] 50)) 65 (.slice A ls c);simp only[cT,mq,Nat.reduceAdd]at ao ap;have ag:Below w w (((w.alloc (.cells #[.pointer (some ⟨b,j,none⟩)] 145)).alloc (.cells #[.int .u64 0] 50)).alloc (.cells #[.slice A ls c] 65)):=((ba w _).alloc (by simp) _).alloc (by simp;omega) _;refine⟨⟨rfl,?_,((dE w _ _).alloc _).alloc _,?_,ap,R.b.Z ag (av _),dD ag _⟩,by simp,by simp⟩
  .rw[iP,ez,List.drop_length];exact R.a.Z ag an
  rw[iP,ez,List.drop_length];exact ao.alloc _
 generalize r:(w.alloc (.cells #[.pointer (some ⟨b,j,none⟩)] 145)).alloc (.cells #[.int .u64 0] 50)=J;have m:=m J r.s;clear r;refine⟨trivial,?_⟩;refine(dh.2 (Y2 A ls c J)).m ?_;rintro e aO ⟨rfl,rfl⟩;have⟨F,aG,aQ⟩:=m _ rfl;clear m;generalize m:J.alloc (.cells #[.slice A ls c] 65)=P at*
 rw[aG];have ah:=H F;clear F m
 gi_wp2
 refine np.two (n:=9) rfl (by omega) (gf:=174) (lb:=#[.pointer (w+2:Nat)]) rfl trivial (gH func174 (by kernel_rfl) rfl) (aP _ _) (Di w b j n t g f A c ls) (fun _ _ _=>False) (fun M ad W h=>⟨h.ints,h.box,fun q y=>by rw[h.Jh]at y;cases y⟩) (fun c M W l j m z _ _ r=>r.elim) [] (fun b T=>by cases T) ah.y ?done ?stop (ags ls A c (w+2) P E ah.y.ints ah.y.box 8) (fun b T=>by cases T) rfl (fun x v u W l j m z I r=>r) (fun M ad W W' h L=>h.steps an (by omega) (fun a e=>(R.c a e).2) L.bZ) Eq (fun _ _ e=>e▸aP _ _) (fun v u d _=>d={tmps:=#[.pointer (some ⟨b,j,none⟩),.slice A ls c,.pointer w,undef,.pointer (w+1:Nat),undef,u,.slice A ls c,.func (.func 174) #[] #[.pointer (w+2:Nat)],v,u,undef,undef,undef,undef,undef,undef,undef,undef,undef,undef],defers:=[]}) ?assign (fun _ _ _ _ _ _ _ _ _ h=>h) (fun _ _ _ _ _ e h=>e▸h) ?body
 case assign=>
  intro l x v u W K _ aq
  gi_wp2
  grind
 case stop=>
  grind
 case body=>
  rintro l M ad x v u _ W C r ⟨rfl,rfl⟩ rfl aR aS;obtain⟨k,ai,rfl⟩:=aca r;have⟨a,N⟩:=eX (ls.getD k 0);have ar:a<48:=by
   rw[N,bj,aI (by omega)];exact R.D _ (oM _)
  have X:=XD ls k (by omega);rw[<-N]at X⊢;have Q:ls.length-M.length=k+1:=by omega
  have au:=C.ptr.C;have ae:=C.yv.C;have m:=C.r;rw[Q]at ae m;have⟨ak,aa⟩:=eX (kg f (ls.drop (k+1))).1;have⟨s,L⟩:=eX (kg f (ls.drop (k+1))).2;rw[<-L]at ae;rw[<-aa]at m;have:=C.b.size;have aw:(0:Int)<=(a:Int):=by omega
  have ax:(a:Int)<48:=by omega
  have ay:¬(a:Int)<0:=by omega
  have az:=C.yv.lt;have E:=dH C m X aa L ai r;clear C m X aa L r N ai Q
  gi_wp2
  refine yh (by kernel_rfl) (by kernel_rfl) (fun h=>by obtain⟨_,_,h⟩:=h;exact h) ?_;refine Bo.AO (jY W) (pW W) (show Below _ _ _ from⟨rfl,rfl,rfl,av _,fun _ _=>rfl⟩) 6 (by kernel_rfl) ?_;simp only[st1];refine Bo.i rfl (fun W' r=>by have c:=r.C (p:=w) (by grind);rw[au]at c;simp[execOp,go_sem,c];rfl) ?_;simp only[o];refine Bo.i rfl (fun W' r=>by simp[execOp,go_sem];rfl) ?_;simp only[o];refine Bo.i rfl (fun W' r=>by have c:=r.C (p:=(w+1:Nat)) (by omega);rw[ae]at c;simp[execOp,go_sem,c];rfl) ?_
  iterate 2(simp only[o];refine Bo.i rfl (fun W' r=>by simp[execOp,go_sem];rfl) ?_)
  simp only[o];refine Bo.i rfl (fun W' r=>by simp[execOp,go_sem,aw,ax,ay];rfl) ?_;simp only[o];refine Bo.oQ ?_;intro w9 Q ab;have Q:=Q;have N:=E.b.Z Q E.b.lt;have f9:w9.frozen? ⟨b,j+1+a,none⟩=false:=N.free _;have aA:=N.C (j+1+a) (by omega);rw[PU _ _ _ _ ar]at aA;have aB:∀m,m=w9.setCell ⟨b,j+1+a,none⟩ (.int .u64 (Bv.U s))->aj m b t n (jI g j (ew ak a s))/\m.cell? (w+1:Nat)=some (.int .u64 (Bv.U s))/\m.frozen? (w+1:Nat)=false/\W.1.size<=m/\(∀q,q≠b->q<W->m.1[q]? =W.1[q]?)/\w.grownBy m (some b):=by
   rintro m rfl;have y:∀q,q≠b->q<W->(w9.setCell ⟨b,j+1+a,none⟩ (.int .u64 (Bv.U s))).1[q]? =W.1[q]?:=fun q z I=>(cP _ _ _ _ z).t (Q.block q I);have aC:Boxed (w9.setCell ⟨b,j+1+a,none⟩ (.int .u64 (Bv.U s))) (w+1) 50 (.int .u64 (Bv.U s)):=by
    have h:=E.a.yv;rw[show ls.length-M=k+1 by have:=E.f;omega,<-E.e]at h;exact(y _ (by omega) az).t h
   refine⟨(N.set _ _).congr fun i _=>Lf g j ak a ar _ i,aC.C,aC.frozen,by grind,y,?_⟩;have aH:=E.a.b;exact(aH.t (dD Q _)).t (mL _ _ _ _)
  clear ab N
  go_wp2_with fail
  generalize aE:w9.setCell ⟨b,j+1+a,none⟩ (.int .u64 (Bv.U s))=m;have⟨ab,d4,aF,aT,N,af⟩:=aB m aE.s;clear aB aE f9 aA Q au ae;have aA:=aD ab N af;clear ab N af
  gi_wp2
  refine yh (by kernel_rfl) (by kernel_rfl) (fun h=>by obtain⟨_,_,h⟩:=h;exact h) ?_;refine Bo.AO (jY m) (pW m) (show Below _ _ _ from⟨rfl,rfl,rfl,av _,fun _ _=>rfl⟩) 4 (by kernel_rfl) ?_;simp only[st1];refine Bo.i rfl (fun W' r=>by have c:=r.C (p:=(w+1:Nat)) (by grind);rw[d4]at c;simp[execOp,go_sem,c];rfl) ?_;simp only[o];refine Bo.i rfl (fun W' r=>by simp[execOp,go_sem];rfl) ?_
  iterate 2(simp only[o];refine Bo.i rfl (fun W' r=>by simp[execOp,go_sem,aw,ax,ay];rfl) ?_)
  simp only[o];refine Bo.oQ ?_;intro Q r ae;have r:=r;have:=(r.frozen (p:=(w+1:Nat)) (by grind)).t aF;have:=(r.C (p:=(w+1:Nat)) (by grind)).t d4;have aB:=H r;clear ae r d4 aF
  go_wp2_with fail
  have⟨F,_,X,aa,L,ai,_⟩:=E.y;have⟨ab,N,af⟩:=aA.y;have r:=aB.y;have ae:ls.length-(M++[(k,a)]).length=k:=by grind
  have au:kg f (ls.drop k)=(ew ak a s,s|||Bv.bit a):=by rw[X,aa,L];rfl
  have y:∀q,q≠w.1.size+1->q<m.1.size->(Q.setCell (w.1.size+1:Nat) (.int .u64 (Bv.U (s|||Bv.bit a)))).1[q]? =m.1[q]?:=fun q z I=>(cP _ _ _ _ z).t (r.block q I);have:(Q.setCell (w+1:Nat) (.int .u64 (Bv.U (s|||Bv.bit a)))).1.size=Q:=by simp_all
  have aE:Boxed Q (w+1) 50 (.int .u64 (Bv.U s)):=by
   have h:=F.yv;rw[show ls.length-M=k+1 by omega,<-L]at h;exact(r.block _ (by omega)).t ((N _ (by omega) az).t h)
  have:=r.size;refine⟨ad,⟨F.Jh,?_,?_,?_,?_,?_,?_⟩,⟨by omega,fun b T=> .inl T,fun q z I _=>?_⟩⟩
  .rw[ae,au];exact(y _ (by omega) ab.lt).t ab
  .exact(y _ (by omega) (by omega)).t ((N _ (by omega) (by omega)).t F.ptr)
  .rw[ae,au];exact aE.set _
  .exact(y _ (by omega) (by omega)).t ((N _ (by omega) F.box.lt).t F.box)
  .intro T;obtain⟨L,aF,rfl,aJ,aK⟩:=F.ints T;have M:=R.c _ rfl;have aL:=M.1;have:L<w:=M.2;refine⟨L,aF,rfl,by omega,fun i am=>?_⟩;rw[<-aK i am];exact uW (w:=W) ((y L (by omega) (by omega)).t (N L aL aJ))
  .have y:=af.t (dD r _);exact⟨y.os,y.tape,y.output,by omega,fun q z I=>(cP _ _ _ _ (by grind)).t (y.block q z I)⟩
  grind
 rintro D ad W aU C aM aq;have E:=H C;clear C aM
 gi_wp2
 refine⟨by simp,.inl ⟨_,_,rfl,mj aq,?_⟩⟩;refine⟨_,ju rfl _ _ _,?_⟩;have C:ls.length-(rh ls)=0:=by rw[Uz];omega
 have O:=E.y.r;rw[C,List.drop_zero]at O;refine⟨rfl,(dX (by omega)).t O,?_⟩;have y:=E.y.b;exact⟨y.os,y.tape,y.output,by simp[World.putObj];exact y.size,fun q z I=>(dX (by omega)).t (y.block q z I)⟩
end
def fx(limit n:Nat)(ks:List Nat):Nat:=ks.foldl (fun n k=>min (n*k) limit) n
def Ni(limit n)(ks)(k):fx limit n (ks++[k])=min (fx limit n ks*k) limit:=by unfold fx;rw[List.foldl_append];rfl
def CT(limit n)(ks):fx limit n ks<=n+limit:=by
 induction ks generalizing n with
 |nil=>unfold fx;simp
 |cons k ks a=>
  have:∀m,m<=limit->fx limit m ks<=limit:=by
   clear a
   induction ks with
   |nil=>intro m b;unfold fx;simpa using b
   |cons k ks a=>
    intro m _;exact a _ (Nat.min_le_right _ _)
  show fx limit (min (n*k) limit) ks<=_
  grind
def gh(m:Nat):List Nat:=List.range' 2 (m-2)
def NN(k)(h:2<=k):gh (k+1)=gh k++[k]:=by
 unfold gh;rw[show k+1-2=(k-2)+1 by omega,List.range'_concat,show 2+1*(k-2)=k by omega]
def Om:gh 2=[]:=rfl
def Zr{m}(h:m<=2):gh m=[]:=by unfold gh;rw[show m-2=0 by omega];rfl
def uh(a b:List Nat)(limit:Nat):Nat:=if a.contains 0 then 0 else fx limit (fx limit 1 a) (b.flatMap gh)
def sC(W:World)(A:Option Addr)(e:List (List Nat)):Prop:=
 0<e.length->∃b f,A=some ⟨b,f,none⟩/\b<W.1.size/\∀k xs,e[k]? =some xs->∃B c,W.cell? ⟨b,f+k,none⟩=some (.slice B xs.length c)/\fK W B (ints xs)/\∀a,B=some a->a.block<W.1.size
def sC.Z{n}{W W'}{A}{xss}(h:sC W A xss)(f:Below n W W')(g:W<=n):sC W' A xss:=by
 intro i;obtain⟨b,off,rfl,o,r⟩:=h i;refine⟨b,off,rfl,aW o f.size,fun k xs u=>?_⟩;have⟨B,c,w,y,C⟩:=r k xs u;exact⟨B,c,(f.C (p:=⟨b,off+k,none⟩) (by grind)).t w,y.Z f g,fun a e=>aW (C a e) f.size⟩
def fK.same{W W':World}{A}{zs}(h:fK W A zs)(g:W.1.size<=W')(o:∀a,A=some a->a.block<W.1.size->W'.1[a.block]? =W.1[a.block]?):fK W' A zs:=by
 intro r;obtain⟨b,off,rfl,f,u⟩:=h r;exact⟨b,off,rfl,aW f g,fun i hi=>(uW (w:=W) (a:=⟨b,off+i,none⟩) (o ⟨b,off,none⟩ rfl f)).t (u i hi)⟩
def ky(W:World)(lo:Nat)(A:Option Addr)(e:List (List Nat)):Prop:=
 (∀a,A=some a->lo<=a.block/\a.block<W.1.size)/\(0<e.length->∃b f,A=some ⟨b,f,none⟩/\∀k xs,e[k]? =some xs->∃B c,W.cell? ⟨b,f+k,none⟩=some (.slice B xs.length c)/\fK W B (ints xs)/\∀a,B=some a->lo<=a.block/\a.block<W.1.size)
def ky.at{W}{lo}{A}{xss}(h:ky W lo A xss):sC W A xss:=by
 intro f;obtain⟨b,off,rfl,g⟩:=h.2 f;refine⟨b,off,rfl,(h.1 _ rfl).2,fun k xs i=>?_⟩
 grind
def ky.same{W W':World}{lo}{A}{xss}(h:ky W lo A xss)(f:W.1.size<=W')(i:∀b,lo<=b->b<W->W'.1[b]? =W.1[b]?):ky W' lo A xss:=by
 refine⟨fun a e=>⟨(h.1 a e).1,aW (h.1 a e).2 f⟩,fun o=>?_⟩;obtain⟨b,off,rfl,r⟩:=h.2 o;refine⟨b,off,rfl,fun k xs u=>?_⟩;have⟨B,c,y,C,g⟩:=r k xs u;exact⟨B,c,(uW (w:=W) (a:=⟨b,off+k,none⟩) (i _ (h.1 _ rfl).1 (h.1 _ rfl).2)).t y,C.same f fun a e E=>i _ (g a e).1 E,fun a e=>⟨(g a e).1,aW (g a e).2 f⟩⟩
def ky.less{W}{lo lo'}{A}{xss}(h:ky W lo A xss)(f:lo'<=lo):ky W lo' A xss:=
 ⟨fun a e=>⟨aO f (h.1 a e).1,(h.1 a e).2⟩,fun g=>by
   have⟨b,off,e,i⟩:=h.2 g
   grind⟩
attribute [irreducible] fx gh
def aah(b A:Nat)(S U:Option Addr)(cs cu:Nat)(a f:List (List Nat))(limit:Nat)(w:World)(X:1<=limit)(aa:limit<=100000)(ab:a.length<=1000)(ad:f.length<=1000)(l:∀x∈a,x.length<=1000)(n:∀x∈f,x.length<=1000)
 (ae:w.cell? ⟨b,A+334,none⟩=some (.slice S a.length cs))(af:w.cell? ⟨b,A+335,none⟩=some (.slice U f.length cu))(o:sC w S a)(p:sC w U f):
 Calls prog 22 #[.pointer (some ⟨b,A,none⟩),.int .i64 limit] w fun e J=>e= .returned (.int .i64 (uh (a.map List.length) (f.map List.length) limit))/\J=w:=by
 have⟨R,g⟩:=eX (uh (a.map List.length) (f.map List.length) limit);rw[<-g];have q:=bM l n o p g;clear l n o p g;go_enter func22,ntmps22;go_wp2
 go_loopw [5,16] (fun v i wr=>∃k:Nat,k<=a.length/\i= .int .i64 k/\wr=w/\v= .int .i64 (fx limit 1 ((a.take k).map List.length))/\((a.take k).map List.length).contains 0=false) (fun _ i _=>a.length-(intOf i).toNat)
 case atStart=>exact⟨0,aQ _,rfl,rfl,by unfold fx;rfl,rfl⟩
 obtain⟨k,ag,rfl,rfl,rfl,r⟩:=hrel;by_cases C:k<a.length
 .obtain⟨N,P,rfl,Q,s⟩:=q.c (by omega);obtain⟨x,l⟩:∃x,a[k]? =some x:=⟨_,aI C⟩
  have⟨B,c,E,_,_⟩:=s k x l;have ah:(k:Int)<a.length:=by omega
  have u:=q.a x (cB l);have o:(a.take (k+1)).map List.length=(a.take k).map List.length++[x.length]:=by rw[jd,l];simp
  by_cases t:x.length=0
  .have F:((x.length:Int)==0)=true:=by simp[t]
   have n:=aA l t;clear s l u o r t;go_wp2;go_ret;refine⟨?_,rfl⟩;rw[q.E];unfold uh;rw[aq (by rw[yH,bX];exact⟨x,cB n.a,n.B⟩)];rfl
  have F:((x.length:Int)==0)=false:=qd.2 (by omega);have⟨m,g⟩:=eX (fx limit 1 ((a.take k).map List.length));have T:=CT limit 1 ((a.take k).map List.length);rw[<-g]at T⊢;have⟨L,y⟩:=eX x.length;rw[<-y]at u o E t F;have⟨M,p⟩:=eX (m*L);have ai:M<=100001*1000:=by rw[p];exact J8 (by omega) u
  have aj:IntKind.i64.wrap ((m:Int)*(L:Int))=(M:Int):=by
   rw[show((m:Int)*(L:Int))=(M:Int) by rw[p];simp];rw[nk];omega
  have n:=bM o g r p t;clear s l o g r p t y;go_wp2;refine⟨⟨k+1,by omega,by go_num,trivial,?_,?_⟩,by simp[intOf];omega⟩
  .rw[n.a,Ni,<-n.b,<-n.d];congr 1;omega
  rw[n.a];rw[xu];intro h;rw[yH,mg]at h;obtain h|h:=h
  .have:=n.c;rw[xu]at this;exact this (by rw[yH];exact h)
  simp at h;exact n.E h.s
 have W:k=a.length:=by omega
 subst W;rw[nH]at r⊢;have⟨t,z⟩:=eX (fx limit 1 (a.map List.length));rw[<-z];have:t<=1+limit:=by rw[z];exact CT _ _ _
 have I:=aA r z;clear r z;go_wp2
 go_loopw [5,35] (fun v i r=>∃j:Nat,j<=f.length/\i= .int .i64 j/\r=wr/\v= .int .i64 (fx limit t ((f.take j).flatMap fun x=>gh x.length))) (fun _ i _=>f.length-(intOf i).toNat)
 case atStart=>exact⟨0,aQ _,rfl,rfl,by unfold fx;rfl⟩
 obtain⟨j,ak,rfl,rfl,rfl⟩:=hrel;by_cases C:j<f.length
 .obtain⟨N,P,rfl,Q,s⟩:=q.d (by omega);obtain⟨x,l⟩:∃x,f[j]? =some x:=⟨_,aI C⟩
  have⟨B,c,E,_,_⟩:=s j x l;have:(j:Int)<f.length:=by omega
  have u:=q.b x (cB l);have o:(f.take (j+1)).flatMap (fun x=>gh x.length)=(f.take j).flatMap (fun x=>gh x.length)++gh x.length:=by rw[jd,l];simp
  have⟨r,z⟩:=eX ((f.take j).flatMap fun x=>gh x.length);rw[<-z]at o⊢;have⟨L,y⟩:=eX x.length;rw[<-y]at u o E;have n:=H o;clear s l o y z;go_wp2
  go_loopw [5,10] (fun v i wp=>∃k:Nat,2<=k/\(k<=L\/k=2)/\i= .int .i64 k/\wp=wr/\v= .int .i64 (fx limit t (r++gh k))) (fun _ i _=>L-(intOf i).toNat)
  case atStart=>exact⟨2,av _,.inr rfl,rfl,rfl,by rw[Om,kL]⟩
  obtain⟨k,o,s,rfl,rfl,rfl⟩:=hrel;have⟨m,g⟩:=eX (fx limit t (r++gh k));have y:=CT limit t (r++gh k);rw[<-g]at y⊢;by_cases k<L
  .have z:(k:Int)<L:=by omega
   have⟨M,p⟩:=eX (m*k);have:M<=200001*1000:=by rw[p];exact J8 (by omega) (by omega)
   have:IntKind.i64.wrap ((m:Int)*(k:Int))=(M:Int):=by
    rw[show((m:Int)*(k:Int))=(M:Int) by rw[p];simp];rw[nk];omega
   have l:=aA g p;clear g p;go_wp2;refine⟨⟨k+1,by omega,.inl (by omega),by go_num,trivial,?_⟩,by simp[intOf];omega⟩;rw[NN k o,<-kZ,Ni,<-l.a,<-l.B];congr 1;omega
  have:¬(k:Int)<L:=by omega
  have l:=H g;clear g;go_wp2;refine⟨⟨j+1,by omega,by go_num,trivial,?_⟩,by simp[intOf];omega⟩;rw[n.y,l.y];congr 4;obtain h|h:=s
  .rw[show k=L by omega]
  rw[h,Om,Zr (by omega)]
 have p:j=f.length:=by omega
 subst p;rw[nH];have⟨m,g⟩:=eX (fx limit t (f.flatMap fun x=>gh x.length));rw[<-g];have l:=H g;clear g;go_wp2;go_ret;refine⟨?_,rfl⟩;rw[q.E];unfold uh;rw[I.a,O (by simp),<-I.B,List.flatMap_map,<-l.y];rfl
def mN(n:Nat):Rl.Rows:=Rl.sG n 1#64 (mJ (n:Int)&&& ~~~1#64)
def eM(a:List Nat):List (List Nat):=(Rl.eL a.length (mN a.length)).map fun x=>x.map fun k=>a.getD k 0
section
def rm(k m i n:Nat):Nat:=if i<k then n else if i=k then m else 0
def abO{k m m' i n}(h:i≠k):rm k m i n=rm k m' i n:=by
 unfold rm
 grind
structure T0(L:List (List Nat))(ws:List Nat)(p:Nat->Nat×Nat)(h:Nat->Nat->Value)(k m:Nat)(W:World):Prop where
 r:∀i x,L[i]? =some x->x.length<=(p i).2/\aj W (p i).1 3 (p i).2 (fun j=>if j<rm k m i x.length then .int .i64 (ws.getD (x.getD j 0) 0:Nat)else h i j)
def agu{base}{L}{v}{W}(o:IY base L v W):
 ∃(vs:List Value)(p:Nat->Nat×Nat)(h:Nat->Nat->Value),W.ownsRow base 65 1 v L vs/\∀i x,L[i]? =some x->vs[i]? =some (.slice ((p i).1:Nat) x.length (p i).2)/\base<=(p i).1/\x.length<=(p i).2/\aj W (p i).1 3 (p i).2 (h i)/\∀j,j<x.length->h i j= .int .i64 (x.getD j 0:Nat):=by
 obtain⟨vs,a,m⟩:=o;have key:∀i:Nat,∃q:(Nat×Nat)×(Nat->Value),∀x:List Nat,L[i]? =x->vs[i]? =(Value.slice q.1.1 x q.1.2)/\base<=q.1.1/\x<=q.1.2/\aj W q.1.1 3 q.1.2 q.2/\∀j,j<x.length->q.2 j= .int .i64 (x.getD j 0:Nat):=by
  intro i;cases r:L[i]? with
  |none=>exact⟨((0,0),fun _=>undef),fun x e=>by cases e⟩
  |some x=>
   obtain⟨u,s,g,c,rfl,t,w⟩:=m i x r;obtain⟨b,_⟩|⟨E,F,l,b,_,H,a,m,z,n⟩:=w.2
   .cases b
   injection b with e1 e2 A;have e1:=aR e1;injection e1 with e1;subst e1 A;rw[CX]at z n;refine⟨((g,c),fun j=>l[j]!),fun y e=>?_⟩;obtain rfl:=aR e;refine⟨s,t,a,?_,fun j I=>?_⟩
   .unfold aj;have:=uR l
    grind
   have e:(l.toList.take x.length)[j]? =(nums x)[j]?:=by rw[n]
   unfold nums at e
   grind
 have⟨f,C⟩:=Classical.axiomOfChoice key;exact⟨vs,fun i=>(f i).1,fun i=>(f i).2,a,C⟩
def Qs{n}{f}(e:Rl.Ok n f){x}(g:x∈Rl.eL n f):x=n/\∀a∈x,a<n:=by
 have⟨h,c,_⟩:=(Rl.I9 e x).1 g;have:=yC x (List.range n) h (fun a b=>fS.2 ((c a).1 b));have:=yC (List.range n) x MM (fun a b=>(c a).2 (fS.1 b))
 grind
def WQ{l m:List Nat}(a:l.length=m)(h:∀j,j<l.length->l.getD j 0=m.getD j 0):l=m:=V1 0 a h
attribute [local go_sem] Bv.fE Bv.fO Bv.fA Bv.fL Bv.fC Bv.gn Bv.fP Bv.fQ
def agC(A:Option Addr)(c:Nat)(q:List Nat)(w:World)(af:q.length<=48)(s:fK w A (ints q))(u:∀a,A=some a->a.block<w.1.size)(l:(Rl.eL q.length (mN q.length)).length<=10000)(C:bh w)(E:2<w.1.size):
 Calls prog 58 #[.slice A q.length c] w fun e aB=>∃B aM,e= .returned (.slice B (eM q).length aM)/\ky aB w.1.size B (eM q)/\Below w w aB:=by
 have⟨n,o⟩:=eX q.length;rw[<-o]at af l⊢;have F:=LI n (mJ n) rfl;have J:bits .andNot .u64 (Bv.U (mJ (n:Int))) 1=Bv.U (mJ (n:Int)&&& ~~~1#64):=Bv.fA _ 1#64;have H:∀W,Calls prog 104 #[.int .i64 n,.int .u64 1,.int .u64 (Bv.U (mJ (n:Int)&&& ~~~1#64))] W (Rs (.agg (ar n (mN n))) W):=fun W=>Yn n 1#64 _ W af;have⟨L,r⟩:=eX (Rl.eL n (mN n));have I:∀W,bh W->2<W.1.size->Calls prog 103 #[.agg (ar n (mN n)),.int .i64 10000] W (PF L 0 W):=fun W ag ah=>by
  have h:=afr n (mN n) 10000 (av _) W (Rl.CP af _ _) ag ah;rw[aq l,aq l,<-r]at h;exact h
 have t:=dC s u r o C E;clear s u r o C E;rw[<-t.c]at l;go_enter func58,ntmps58
 go_wp2_with fail
 refine(F w).m ?_;rintro e X ⟨rfl,rfl⟩
 go_wp2_with fail
 refine(H w).st fun X l=>?_;clear F J H;have al:=l.size;have aC:=aA l (t.e.Z l t.e.lt);clear l
 go_wp2_with fail
 refine(I X aC.B (by have:=t.F;omega)).m ?_;rintro e aN ⟨v,rfl,J,F⟩;clear I;have⟨vs,p,h,o,r⟩:=agu J;have H:L.Nodup:=by rw[t.c];exact Rl.aar _ _
 have s:∀(i:Nat)(x:List Nat),L[i]? =some x->x.length=n/\∀a∈x,a<n:=fun i x l=>Qs (f:=mN n) (Rl.CP af _ _) (by rw[<-t.c];exact cB l);have P:∀(i j:Nat)(x y:List Nat),L[i]? =some x->L[j]? =some y->i≠j->(p i).1≠(p j).1:=by
  intro i j x y l C aP am;have⟨_,_,M,E,aS⟩:=r i x l;have⟨_,_,a7,aE,aT⟩:=r j y C;unfold aj at E aE;rw[am,aE]at E;have e:=aR E;injection e with e1 e2 an;have aF:=cg Array.size e1;simp only[dF]at aF;have:=(s i x l).1;have:=(s j y C).1;rw[aF]at e1;have aV:x=y:=WQ (by omega) fun k I=>by
   have ao:=FW e1 k (by omega);rw[aS k I,aT k (by omega)]at ao;injection ao with _ ao;omega
  subst aV;exact aP ((List.getElem?_inj (bL.1 l).1 H).1 (by rw[l,C]))
 have Q:∀ob,v.ownBlock=some ob->∀(i:Nat)(x:List Nat),L[i]? =some x->ob≠(p i).1:=by
  intro ob aG i x l am;have⟨_,_,_,E,_⟩:=r i x l;obtain⟨u,_⟩|⟨g,ap,au,u,_,aW,_⟩:=o.2
  .subst u;cases aG
  subst u;have e:g=ob:=aR aG;subst e;unfold aj at E;rw[<-am,aW]at E;have e:=aR E;injection e with _ e2 _;exact absurd e2 (dr rfl)
 have⟨aH,aw,aX⟩:=bo o (dr rfl);subst aX;have:=F.size;have N:=bM H s P Q r;have aJ:=aA o (show Below w w aN from aC.a.t (F.m al));clear H s P Q r o J F;go_wp2
 go_loopw [23] (fun i wr=>∃k:Nat,k<=L.length/\i= .int .i64 k/\T0 L q p h k 0 wr/\Below w w wr/\wr.ownsRow X.1.size 65 1 (.slice aH L.length aw) L.length vs) (fun i _=>L.length-(intOf i).toNat)
 case atStart=>
  refine⟨0,aQ _,rfl,⟨fun i x l=>?_⟩,aJ.B,aJ.a⟩;have⟨_,_,M,E,_⟩:=N.E i x l;refine⟨M,E.congr fun j _=>?_⟩;rw[O (by unfold rm;split;omega;split<;>omega)]
 obtain⟨k,I,rfl,r,s,o⟩:=hrel;by_cases aY:k<L.length
 .have:(k:Int)<L.length:=by omega
  obtain⟨x,l⟩:∃x,L[k]? =some x:=⟨_,aI aY⟩
  have⟨ai,M,E,_,R⟩:=N.E k x l;have⟨P,Q⟩:=N.b k x l;obtain⟨u,aK⟩|⟨H,ap,au,u,_⟩:=o.2
  .omega
  injection u with e1 e2 an;subst e1 an;have ck:=o.cells (g:=H) rfl k _ ai;rw[eV,cK]at ck;have⟨gk,F⟩:=eX (p k).1;have⟨aZ,J⟩:=eX (p k).2;rw[<-F,<-J,P]at ck;have aa:=yn r s o l P Q M E R F J;clear r s o l P Q M E R F J ai;go_wp2
  go_loopw [29] (fun i E=>∃m:Nat,m<=n/\i= .int .i64 m/\T0 L q p h k m E/\Below w w E/\E.ownsRow X.1.size 65 1 (.slice H L.length aw) L.length vs) (fun i _=>n-(intOf i).toNat)
  case atStart=>exact⟨0,aQ _,rfl,aa.a,aa.b,aa.c⟩
  obtain⟨m,a8,rfl,r,s,o⟩:=hrel;have⟨_,_,_,l,P,Q,ax,ay,az,F,J⟩:=aa.y;by_cases m<n
  .have:(m:Int)<n:=by omega
   have⟨_,E⟩:=r.r k x l;rw[<-F,<-J]at E;have ae:x.length<=aZ:=by rw[J];exact ay
   have aL:=E.C m (by omega);rw[O (by unfold rm;rw[O (by omega),aq rfl];omega),az m (by omega)]at aL;have:=E.free m;have⟨a,T⟩:=eX (x.getD m 0);rw[<-T]at aL;have a0:a<n:=by rw[T,bj,aI (by omega)];exact Q _ (oM _)
   have⟨wb,a1,a2,a3,ad⟩:=t.a (by rw[iL,<-t.d];omega);subst a2;have⟨z,ab⟩:=eX (q.getD a 0);have a4:=(s.C (p:=⟨wb,a1+a,none⟩) (by show wb<w.1.size;exact a3)).t (ad a (by rw[iL,<-t.d];exact a0));rw[show(ints q).getD a 0=(z:Int) by rw[ab];unfold ints;rw[bj,bj,dG];cases h:q[a]?<;>rfl]at a4;have:(a:Int)<n:=by omega
   have:(0:Int)<=(a:Int):=by omega
   have:(0:Int)<=(m:Int):=by omega
   have:X.1.size<=gk:=by rw[F];exact ax
   have R:=bM r s o T ab;clear r s o E ad T ab l P Q ax ay az F J ae
   go_wp2_with fail
   have⟨r,s,o,T,ab⟩:=R.y;have⟨_,_,_,l,P,Q,_,_,_,F,J⟩:=aa.y;have a5:∀(i:Nat)(y:List Nat),L[i]? =some y->i≠k->(p i).1≠gk:=fun i y C ad=>by rw[F];exact N.c i k y x C l ad
   have:H≠gk:=by rw[F];exact N.d H rfl k x l
   refine⟨⟨m+1,by omega,by go_num,⟨fun i y C=>?_⟩,s.setCell (p:=⟨gk,m,none⟩) (by show w.1.size<=gk;omega) _,dJ o fun b e E=>cP _ _ _ _ (by have e2:H=b:=aR e;show b≠gk;omega)⟩,by simp[intOf];omega⟩;have⟨ak,E⟩:=r.r i y C;refine⟨ak,?_⟩;by_cases ad:i=k
   .subst ad;obtain rfl:=aR (l.s.t C);rw[<-F]at E⊢;refine(E.set m _).congr fun j ae=>?_;unfold aU rm;rw[O (n9 _),aq rfl,O (n9 _),aq rfl];by_cases e:j=m
    .subst e;rw[aq rfl,aq (by omega),<-T,<-ab]
    rw[O e];show(if j<m then _ else _)=_;by_cases h:j<m
    .rw[aq h,aq (by omega)]
    rw[O h,O (by omega)]
   rw[abO (m':=m) ad];exact(cP _ _ _ _ (a5 i y C ad)).t E
  have a6:m=n:=by omega
  subst a6;have R:=aD r s o;clear r s o l P Q ax ay az F J;go_wp2;refine⟨⟨k+1,by omega,by go_num,⟨fun i y C=>?_⟩,R.b,R.C⟩,by simp[intOf];omega⟩;have⟨ak,E⟩:=R.a.r i y C;have J:rm k m i y.length=rm (k+1) 0 i y.length:=by
   have P:=(N.b i y C).1;unfold rm;by_cases ag:i<k
   .rw[aq ag,aq (by omega)]
   rw[O ag];by_cases ah:i=k
   .rw[aq ah,aq (by omega),P]
   rw[O ah,O (by omega)];split<;>rfl
  rw[<-J];exact⟨ak,E⟩
 have Q:k=L.length:=by omega
 subst Q;have R:=aD r s o;clear r s o;go_wp2;go_ret;have F:(eM q).length=L.length:=by unfold eM;rw[cV,<-t.d,<-t.c]
 have⟨r,s,o⟩:=R.y;refine⟨aH,aw,by rw[F];rfl,⟨fun a e=>?_,fun ax=>?_⟩,s⟩
 .obtain⟨u,aK⟩|⟨H,ap,au,u,_⟩:=o.2
  .injection u with e1;subst e1;cases e
  injection u with e1;subst e1;cases e;have:=o.lt H rfl;exact⟨aO al this.1,this.2⟩
 rw[F]at ax;obtain⟨u,aK⟩|⟨H,ap,au,u,_⟩:=o.2
 .omega
 injection u with e1 e2 an;subst e1;refine⟨H,0,rfl,fun k xs I=>?_⟩;unfold eM at I;rw[dG,<-t.d,<-t.c]at I;cases l:L[k]? with
 |none=>rw[l]at I;cases I
 |some x=>
  rw[l]at I;obtain rfl:=aR I;have⟨ai,M,_,_,_⟩:=N.E k x l;have⟨ak,E⟩:=r.r k x l;have ck:=o.cells (g:=H) rfl k _ ai;rw[eV]at ck;refine⟨some ⟨(p k).1,0,none⟩,(p k).2,by rw[ck,cV],fun _=>⟨(p k).1,0,rfl,E.lt,fun j ae=>?_⟩,fun a e=>by cases e;exact⟨aO al M,E.lt⟩⟩;rw[iL,cV]at ae;have ay:k<L.length:=(bL.1 l).1;have c:=E.C j (by omega);rw[cK,c,aq (by unfold rm;rw[aq ay];exact ae)];congr 2;unfold ints;rw[bj,bj,bj,dG,dG,aI ae];simp only[dG,FZ,sH,aI ae,bj]
end
def qH(w:World)(base:Nat)(e:TypeId)(size:Nat)(v:Value)(n:Nat)(xs:List Value):World->Prop:=fun W=>w.grownBy W v.ownBlock/\W.ownsRow base e size v n xs
def E7(w)(base)(e)(size)(v)(n)(xs):Bo.Inv (qH w base e size v n xs) none:=
 ⟨fun W z h=>⟨h.1.t ⟨rfl,rfl,rfl,by simp,fun _ a _=>fF _ _ _ a⟩,h.2.alloc z⟩,fun _ _ _ _ h _ _ _=>(by cases h),fun _ _ h _=>(by cases h)⟩
def N6{P}{ops}{I}{Q}{R}{a}{rest}{o}(e)(cs)(j:Bo.gY o=true)(l:Region.wanted o (yielded ops a.tmps)=true)
 (m:∀W,(execOp a.eval o).run P W= .ok (.value (.slice W 1 1)) (W.alloc (.cells cs e)))(i:∀W z,R W->R (W.alloc z))(n:∀W z,I W->I (W.alloc z))
 (h:∀g,Bo.walk P ops I none Q rest (fun W=>R W/\W.1[g]? =some (.cells cs e (0,0))) (a.put o.dst (.slice (g:Nat) 1 1))):Bo.walk P ops I none Q (o::rest) R a:=
 Bo.ym (fun v f=>∃g,v= .slice (g:Nat) 1 1/\f=fun W=>R W/\W.1[g]? =some (.cells cs e (0,0))) j l
   (fun v f ⟨g,_,c⟩ W z b=>by
     subst c;exact⟨i _ _ b.1,(fF _ _ _ (gS.1 b.2).1).t b.2⟩) ⟨_,_,0,rfl,rfl⟩
   (fun W b c=>by
     rw[m W];exact⟨_,⟨W,rfl,rfl⟩,n _ _ b,⟨i _ _ c,jZ W _⟩,fun _ _ h=>by cases h⟩)
   (fun v f ⟨g,b,c⟩=>by grind)
def Ti{P:Program}{ops}{Q}{R}{a}{rest}{o}(s x)(t)(y:o.op= .call {callee:= .builtin .append,args:=#[s,x],argTypes:=#[t,t]})(F:Region.wanted o (yielded ops a.tmps)=true)
 (w0:World)(base:Nat)(e)(i:TypeInfo)(z:Value)(size bytes)(H:P.underlying t=some (.slice e))(I:P.info? e=i)(J:i.zero=z)
 (L:i.size=size)(M:i.bytes=bytes)(N:z.cells.size=size)(C:0<size)
 (v)(n)(xs)(O:a.eval s=v)(g m c:Nat)(cs)(T:a.eval x= .slice g m c)(aj:cs.size=m*size)(E:∀u∈cs.toList,u.oneCell'=true)
 (X:∀W,R W->W.1[g]? =some (.cells cs e (0,0)))(aa:n+m<=maxLen)(ab:(n+m)*bytes<=140737488355328)(ad:base<=w0)
 (h:∀f,(∃A l,f= .slice A (n+m) l)->(∀b,f.ownBlock=some b->v.ownBlock=some b\/w0.1.size<=b)->Bo.walk P ops (qH w0 base e size v n xs) none Q rest (fun W=>W.ownsRow base e size f (n+m) (xs++cs.toList)) (a.put o.dst f)):
 Bo.walk P ops (qH w0 base e size v n xs) none Q (o::rest) R a:=
 Bo.ym (fun f q=>((∃A l,f= .slice A (n+m) l)/\∀b,f.ownBlock=some b->v.ownBlock=some b\/w0.1.size<=b)/\q=fun W=>W.ownsRow base e size f (n+m) (xs++cs.toList)) (by unfold Bo.gY;rw[y]) F
   (fun f q ⟨_,p⟩ W z l=>by rw[p]at l⊢;exact l.alloc z) ⟨.slice none (n+m) 0,_,⟨⟨none,0,rfl⟩,fun b r=>by cases r⟩,rfl⟩
   (fun W l p=>by
     have⟨f,W',ae,w,af,ag,ah⟩:=E3 (P:=P) W t o.type base e i z size bytes H I J L M N C v n xs l.2 g m c cs.toList (by omega) (fun j u ai=>by rw[eV,cK,lN W g j _ _ _ (X W p)];simpa using ai) E aa ab (aO ad l.1.size);rw[Bo.Lm s x t y O T ae];exact⟨_,⟨⟨by have⟨A,c,e⟩:=bo w C;exact⟨A,c,e⟩,fun b r=>(ah b r).imp id (fun h=>aO l.1.size h)⟩,rfl⟩,⟨l.1.t ag,af⟩,w,fun _ _ h=>by cases h⟩)
   (fun f q ⟨⟨E,w⟩,p⟩=>by grind)
def DQ{P:Program}(w){ops}{rest}{o}{a}{Q}(p:o.guard=none)(s x)(t)
 (q:o.op= .call {callee:= .builtin .append,args:=#[s,x],argTypes:=#[t,t]})
 (base)(e)(i:TypeInfo)(z:Value)(size bytes)(r:P.underlying t=some (.slice e))(y:P.info? e=i)(A:i.zero=z)
 (C:i.size=size)(E:i.bytes=bytes)(F:z.cells.size=size)(H:0<size)
 (v)(n)(xs)(I:a.eval s=v)(J:w.ownsRow base e size v n xs)
 (ad)(m c)(f:List Value)(L:a.eval x= .slice (some ad) m c)(M:f=m*size)(N:∀j u,f[j]? =some u->w.cell? (ad.add j)=some u)(O:∀u∈f,u.oneCell'=true)
 (R:n+m<=maxLen)(T:(n+m)*bytes<=140737488355328)(W:base<=w.1.size)
 (h:∀g l,l.ownsRow base e size g (n+m) (xs++f)->w.grownBy l v.ownBlock->(∀b,g.ownBlock=some b->v.ownBlock=some b\/w.1.size<=b)->wpList P ops Q rest (a.put o.dst g) l):wpList P ops Q (o::rest) a w:=by
 refine Ca p fun _ X=>?_;have⟨g,l,aa,ab,_,ae,af⟩:=E3 (P:=P) w t o.type base e i z size bytes r y A C E F H v n xs J ad m c f M N O R T W;unfold Oper.wp;rw[Bo.Lm s x t q I L aa];exact X _ _ (h g l ab ae af)
def ed{W}{base n m b}{e t}{size}{v}{xs}{g}(h:W.ownsRow base e size v n xs)(f:aj W b t m g)(i:e≠t):v.ownBlock≠some b:=by
 intro c;obtain⟨a,_⟩|⟨j,l,o,a,_,p,_⟩:=h.2
 .subst a;cases c
 subst a;have:=aR c;unfold aj at f
 grind
def eG.same{W W':World}{A}{F}(h:eG W A F)(g:W.1.size<=W')(o:∀a,A=some a->a.block<W.1.size->W'.1[a.block]? =W.1[a.block]?):eG W' A F:=by
 intro r;obtain⟨b,off,rfl,f,u⟩:=h r;exact⟨b,off,rfl,aW f g,fun i x y j C=>(uW (w:=W) (a:=⟨b,off+i*7+j,none⟩) (o ⟨b,off,none⟩ rfl f)).t (u i x y j C)⟩
def il(a:List aN)(k l:Nat):List Nat:=(List.range k).filter fun i=>(a[i]?).any fun x=>x.ev.kind==2&&x.ev.loc.toNat==l
def bI(a:List aN)(l:Nat):List Nat:=il a a.length l
def Kd{F}{k}{x}(h:F[k]? =some x)(l):il F (k+1) l=if x.ev.kind==2&&x.ev.loc.toNat==l then il F k l++[k]else il F k l:=by
 unfold il;rw[jh,oh]
 grind
def vy(F)(k l):(il F k l).length<=k:=by
 unfold il
 grind
def Bj{F}{k l i}:i∈il F k l↔i<k/\∃x,F[i]? =some x/\x.ev.kind=2/\x.ev.loc.toNat=l:=by
 unfold il
 grind
def fT(a:List aN)(k:Nat):List Nat:=(List.range k).filter fun i=>(a[i]?).any fun x=>x.ev.kind==1
def RI{F}{k}{x}(h:F[k]? =some x):fT F (k+1)=if x.ev.kind==1 then fT F k++[k]else fT F k:=by
 unfold fT;rw[jh,oh]
 grind
def Mz(F)(k):(fT F k).length<=k:=by
 unfold fT
 grind
def pI(a:List aN)(b:List Nat)(v:UInt8):List Nat:=b.filter fun i=>(a[i]?).any fun x=>x.ev.val==v
def jK(a:List aN)(r:Nat):List Nat:=match a[r]? with
 |some x=>pI a (bI a x.ev.loc.toNat) x.ev.val
 |none=>[]
def bu(a:List aN):List Nat:=fT a a.length
def bF(a:List aN):List (List Nat):=(bu a).map (jK a)
def gg(a:List aN)(N:Nat):List (List Nat):=(List.range N).map (bI a)
structure tG(w:World)(mb wb:Nat)(G:Nat->Value)(F:List aN)(N k:Nat)(V:Nat->Value)(W:World):Prop where
 dB:aj W mb 93 336 (aU G 335 (.slice wb N N))
 row:aj W wb 65 N V
 own:∀l,l<N->W.ownsRow w.1.size 3 1 (V l) (il F k l).length (nums (il F k l))
 Eg:∀l l',l<N->l'<N->l≠l'->∀b,(V l).ownBlock=some b->(V l').ownBlock≠some b
 gr:w.grownBy W (some mb)
def tG.y6{w w2 w9 wo}{mb wb N k l n}{G V}{F}{x}{v'}(h:tG w mb wb G F N k V wo)(al:mb<w.1.size)(am:w.1.size<=wb)(R:F[k]? =some x)(o:x.ev.kind=2)(an:l=x.ev.loc.toNat)(C:l<N)
 (f:Below wo.1.size wo w2)(r:qH w2 w.1.size 3 1 (V l) n (nums (il F k l)) w9)(T:n=(il F k l).length)(L:w9.ownsRow w.1.size 3 1 v' (n+1) (nums (il F k l)++[.int .i64 k]))
 (W:∀b,v'.ownBlock=some b->(V l).ownBlock=some b\/w2.1.size<=b):tG w mb wb G F N (k+1) (aU V l v') (w9.setCell ⟨wb,l,none⟩ v'):=by
 have E:=h.own l C;have X:some mb≠(V l).ownBlock:=fun e=>by have:=(E.lt mb e.s).1;omega
 have aa:some wb≠(V l).ownBlock:=fun e=>ed E h.row (dr rfl) e.s;have M:=(h.row.Z f h.row.lt).K r.1 aa;have H:∀q,q<wo.1.size->some q≠(V l).ownBlock->w9.1[q]? =wo.1[q]?:=fun q g o=>(r.1.block q (aW g f.size) o).t (f.block q g);have y:∀q,q≠wb->(w9.setCell ⟨wb,l,none⟩ v').1[q]? =w9.1[q]?:=fun q ad=>cP _ _ _ _ ad;have ae:(w9.setCell ⟨wb,l,none⟩ v').1.size=w9.1.size:=by simp_all
 refine⟨?_,M.set l v',fun i hi=>?_,fun i j hi A af b I J=>?_,?_⟩
 .exact(y mb (by omega)).t ((H mb h.dB.lt X).t h.dB)
 .rw[Kd R];by_cases e:i=l
  .subst e;have ag:(x.ev.kind==2&&x.ev.loc.toNat==i)=true:=by grind
   rw[aq ag,dc,qz,pG,<-T];have ev:aU V i v' i=v':=by unfold aU;rw[aq rfl]
   rw[ev];exact dJ L fun b P _=>y b (fun e=>ed L M (dr rfl) (by grind))
  rw[O (by grind)];have ev:aU V l v' i=V i:=by unfold aU;rw[O e]
  rw[ev];exact dJ (h.own i hi) fun b P ah=>(y b (fun e2=>ed (h.own i hi) h.row (dr rfl) (by grind))).t (H b ah (fun e2=>h.Eg i l hi C e b P e2.s))
 .have:∀j,j<N->j≠l->∀b,(V j).ownBlock=some b->v'.ownBlock≠some b:=fun j A ai b g o=>by
   obtain Q|Q:=W b o
   .exact h.Eg j l A C ai b g Q
   have:=((h.own j A).lt b g).2;have:=f.size;omega
  unfold aU at I J;by_cases aj:i=l
  .grind
  rw[O aj]at I;by_cases ak:j=l
  .grind
  rw[O ak]at J;exact h.Eg i j hi A af b I J
 have u:=h.gr;refine⟨?_,?_,?_,by rw[ae];exact aO u.size (aO f.size r.1.size),fun q g o=>?_⟩
 .exact r.1.os.t (f.os.t u.os)
 .exact r.1.tape.t (f.tape.t u.tape)
 .exact r.1.output.t (f.output.t u.output)
 exact(y q (by omega)).t ((H q (aW g u.size) (fun e=>by have:=(E.lt q e.s).1;omega)).t (u.block q g o))
def tG.DA{w w2 wo}{mb wb N k}{G V}{F}{x}(h:tG w mb wb G F N k V wo)(g:F[k]? =some x)(o:x.ev.kind≠2)(f:Below wo.1.size wo w2):tG w mb wb G F N (k+1) V w2:=by
 refine⟨h.dB.Z f h.dB.lt,h.row.Z f h.row.lt,fun i hi=>?_,h.Eg,h.gr.t (dD f _)⟩;rw[Kd g,O (by simp[o])];exact bP (h.own i hi) f
structure ou(w1:World)(mb:Nat)(GB:Nat->Value)(F:List aN)(k:Nat)(vr vs:Value)(S:List Value)(W:World):Prop where
 dB:aj W mb 93 336 (aU (aU GB 333 vr) 334 vs)
 reads:W.ownsRow w1.1.size 3 1 vr (fT F k).length (nums (fT F k))
 jw:W.ownsRow w1.1.size 65 1 vs (fT F k).length S
 each:∀(i r:Nat),(fT F k)[i]? =some r->∃u,S[i]? =some u/\W.ownsRow w1.1.size 3 1 u (jK F r).length (nums (jK F r))/\∀b,u.ownBlock=some b->vr.ownBlock≠some b
 gr:w1.grownBy W (some mb)
def ou.Z{w1}{mb}{GB}{F}{k}{vr vs}{S}{W W'}(h:ou w1 mb GB F k vr vs S W)(f:Below W.1.size W W'):ou w1 mb GB F k vr vs S W':=
 ⟨h.dB.Z f h.dB.lt,bP h.reads f,bP h.jw f,fun i r g=>by have⟨u,o,w,y⟩:=h.each i r g;exact⟨u,o,bP w f,y⟩,h.gr.t (dD f _)⟩
structure IK(w1:World)(mb:Nat)(GB:Nat->Value)(F:List aN)(k r:Nat)(vr vs u:Value)(S:List Value)(W:World):Prop where
 dB:aj W mb 93 336 (aU (aU GB 333 vr) 334 vs)
 reads:W.ownsRow w1.1.size 3 1 vr ((fT F k).length+1) (nums (fT F k)++[.int .i64 r])
 jw:W.ownsRow w1.1.size 65 1 vs (fT F k).length S
 each:∀(i r:Nat),(fT F k)[i]? =some r->∃u,S[i]? =some u/\W.ownsRow w1.1.size 3 1 u (jK F r).length (nums (jK F r))/\∀b,u.ownBlock=some b->vr.ownBlock≠some b
 new:W.ownsRow w1.1.size 3 1 u (jK F r).length (nums (jK F r))/\∀b,u.ownBlock=some b->vr.ownBlock≠some b
 gr:w1.grownBy W (some mb)
def QJ{a w9:World}{mb k}{v}(h:a.grownBy w9 (some mb)):a.grownBy (w9.setCell ⟨mb,k,none⟩ v) (some mb):=h.t (mL _ _ _ _)
def ou.gB{w1 wr w9}{mb k r n}{GB}{F}{vr vs u v'}{S}{o}(h:ou w1 mb GB F k vr vs S wr)(ad:mb<w1.1.size)(Q:n=(fT F k).length)
 (L:wr.ownsRow w1.1.size 3 1 u (jK F r).length (nums (jK F r)))(M:∀b,u.ownBlock=some b->vr.ownBlock≠some b)
 (N:w9.ownsRow w1.1.size 3 1 v' (n+1) (nums (fT F k)++[.int .i64 r]))(E:(wr.alloc o).grownBy w9 vr.ownBlock)(A:∀b,v'.ownBlock=some b->vr.ownBlock=some b\/(wr.alloc o).1.size<=b):
 IK w1 mb GB F k r v' vs u S (w9.setCell ⟨mb,333,none⟩ v'):=by
 subst Q;have O:∀q,q≠mb->(w9.setCell ⟨mb,333,none⟩ v').1[q]? =w9.1[q]?:=fun q H=>cP _ _ _ _ H;have I:∀q,q<wr.1.size->vr.ownBlock≠some q->w9.1[q]? =wr.1[q]?:=fun q f w=>(E.block q (by simp;omega) (fun e=>w e.s)).t (fF _ _ _ f);have R:vr.ownBlock≠some mb:=fun e=>by have:=(h.reads.lt mb e).1;omega
 have keep:∀(t:TypeId)(v:Value)(n:Nat)(xs:List Value),wr.ownsRow w1.1.size t 1 v n xs->(∀b,v.ownBlock=some b->vr.ownBlock≠some b)->(w9.setCell ⟨mb,333,none⟩ v').ownsRow w1.1.size t 1 v n xs:=fun t v n xs f w=>
  dJ f fun b A P=>(O b (by have:=(f.lt b A).1;omega)).t (I b P (w b A))
 have T:∀(t:TypeId)(v:Value)(n:Nat)(xs:List Value),wr.ownsRow w1.1.size t 1 v n xs->(∀b,v.ownBlock=some b->vr.ownBlock≠some b)->∀b,v.ownBlock=some b->v'.ownBlock≠some b:=fun t v n xs f w b W X=>by
  obtain J|J:=A b X
  .grind
  have:=(f.lt b W).2;simp at J;omega
 refine⟨?_,dJ N fun b A P=>O b (by have:=(N.lt b A).1;omega),keep _ _ _ _ h.jw ?_,fun i q H=>?_,⟨keep _ _ _ _ L M,T _ _ _ _ L M⟩,?_⟩
 .have aa:aj w9 mb 93 336 (aU (aU GB 333 vr) 334 vs):=(I mb h.dB.lt R).t h.dB;refine(aa.set 333 v').congr fun i _=>?_;unfold aU
  grind
 .intro b f w;obtain⟨y,_⟩|⟨g,_,_,y,_,ae,_⟩:=h.jw.2
  .subst y;cases f
  subst y;obtain⟨y,_⟩|⟨af,_,_,y,_,ag,_⟩:=h.reads.2
  .subst y;cases w
  subst y;have:=aR f;have:=aR w
  grind
 .have⟨ah,f,w,J⟩:=h.each i q H
  grind
 have C:=h.gr;exact QJ ⟨E.os.t C.os,E.tape.t C.tape,E.output.t C.output,by have:=E.size;have:=C.size;simp at*;omega,fun q f w=>(I q (by have:=C.size;omega) (fun e=>by have:=(h.reads.lt q e).1;omega)).t (C.block q f w)⟩
def IK.fin{w1 wr w9}{mb k n}{GB}{F}{x}{vr vs u v'}{S}{o}(h:IK w1 mb GB F k k vr vs u S wr)(Q:mb<w1.1.size)(M:n=(fT F k).length)(N:F[k]? =some x)(f:x.ev.kind=1)
 (I:w9.ownsRow w1.1.size 65 1 v' (n+1) (S++[u]))(A:(wr.alloc o).grownBy w9 vs.ownBlock)(R:∀b,v'.ownBlock=some b->vs.ownBlock=some b\/(wr.alloc o).1.size<=b):
 ou w1 mb GB F (k+1) vr v' (S++[u]) (w9.setCell ⟨mb,334,none⟩ v'):=by
 subst M;have J:∀q,q≠mb->(w9.setCell ⟨mb,334,none⟩ v').1[q]? =w9.1[q]?:=fun q r=>cP _ _ _ _ r;have E:∀q,q<wr.1.size->vs.ownBlock≠some q->w9.1[q]? =wr.1[q]?:=fun q f w=>(A.block q (by simp;omega) (fun e=>w e.s)).t (fF _ _ _ f);have O:vs.ownBlock≠some mb:=fun e=>by have:=(h.jw.lt mb e).1;omega
 have keep:∀(v:Value)(n:Nat)(xs:List Value),wr.ownsRow w1.1.size 3 1 v n xs->(w9.setCell ⟨mb,334,none⟩ v').ownsRow w1.1.size 3 1 v n xs:=fun v n xs f=>
  dJ f fun b C L=>(J b (by have:=(f.lt b C).1;omega)).t (E b L (fun w=>by
   obtain⟨y,_⟩|⟨g,_,_,y,_,H,_⟩:=h.jw.2
   .subst y;cases w
   .subst y;obtain⟨y,_⟩|⟨P,_,_,y,_,T,_⟩:=f.2
    .subst y;cases C
    .subst y;have:=aR w;have:=aR C
     grind))
 have H:fT F (k+1)=fT F k++[k]:=by rw[RI N,f];rfl
 have:S.length=(fT F k).length:=by have:=h.jw.1;omega
 refine⟨?_,?_,?_,fun i q r=>?_,?_⟩
 .have P:aj w9 mb 93 336 (aU (aU GB 333 vr) 334 vs):=(E mb h.dB.lt O).t h.dB;refine(P.set 334 v').congr fun i _=>?_;unfold aU
  grind
 .rw[H,dc,qz,pG];exact keep _ _ _ h.reads
 .rw[H,dc,qz];exact dJ I fun b C L=>J b (by have:=(I.lt b C).1;omega)
 .rw[H,tm]at r;split at r
  .have⟨T,f,w,W⟩:=h.each i q r
   grind
  have hi:i-(fT F k).length=0:=by
   grind
  rw[hi]at r;obtain rfl:=aR r;refine⟨u,?_,keep _ _ _ h.new.1,h.new.2⟩
  grind
 have y:=h.gr;exact QJ ⟨A.os.t y.os,A.tape.t y.tape,A.output.t y.output,by have:=A.size;have:=y.size;simp at*;omega,fun q f w=>(E q (by have:=y.size;omega) (fun e=>by have:=(h.jw.lt q e).1;omega)).t (y.block q f w)⟩
def aeT{w wo W}{mb wb N}{G V}{F}{vr vs}{S}(j:tG w mb wb G F N F.length V wo)(b:ou wo mb (aU G 335 (.slice wb N N)) F F.length vr vs S W)(E:mb<w.1.size)(H:w.1.size<=wb):
 ∃R S U cr cs cu,aj W mb 93 336 (aU (aU (aU G 333 (.slice R (bu F).length cr)) 334 (.slice S (bF F).length cs)) 335 (.slice U N cu))/\(∀a,R=some a->w.1.size<=a.block/\a.block<W.1.size)/\fK W R (ints (bu F))/\
  ky W w.1.size S (bF F)/\ky W w.1.size U (gg F N)/\w.grownBy W (some mb):=by
 have:=j.gr.size;have v:=b.gr.size;have⟨R,cr,x,_,_,y⟩:=tI b.reads;have⟨p,cs,z⟩:=bo b.jw (dr rfl);have:(bF F).length=(fT F F.length).length:=by unfold bF bu;rw[cV]
 refine⟨R,p,some wb,cr,cs,N,?_,?_,y,⟨?_,?_⟩,⟨?_,?_⟩,j.gr.t b.gr⟩
 .refine b.dB.congr fun i _=>?_;unfold aU bu
  grind
 .intro a e;have:=b.reads.lt a.block (by rw[x,e];rfl);omega
 .intro a e;have:=b.jw.lt a.block (by rw[z,e];rfl);omega
 .intro I;obtain⟨_,q⟩|⟨g,J,L,q,_⟩:=b.jw.2
  .omega
  have e1:p=some g:=by grind
  refine⟨g,0,e1,fun k xs f=>?_⟩;unfold bF at f;rw[dG]at f;cases l:(bu F)[k]? with
  |none=>rw[l]at f;cases f
  |some r=>
   rw[l]at f;obtain rfl:=aR f;have⟨u,A,s,_⟩:=b.each k r l;have⟨B,c,h,_,_,m⟩:=tI s;have t:=b.jw.cells (g:=g) (by rw[q];rfl) k u A;rw[eV]at t;refine⟨B,c,by rw[t,h],m,fun a e=>?_⟩;have:=s.lt a.block (by rw[h,e];rfl);omega
 .have:=j.row.lt
  grind
 intro _;refine⟨wb,0,rfl,fun k xs f=>?_⟩;unfold gg at f;rw[dG]at f;have n:k<N:=by
  grind
 rw[pU n]at f;obtain rfl:=aR f;have o:=j.own k n;have⟨B,c,h,_,_,m⟩:=tI o;rw[cK,((j.row.K b.gr (by grind)).C k n),h];refine⟨B,c,rfl,m.same v fun a e C=>b.gr.block _ C (fun e2=>?_),fun a e=>?_⟩
 .have:=(o.lt a.block (by rw[h,e];rfl)).1
  grind
 have:=o.lt a.block (by rw[h,e];rfl);omega
def ou.DA{w1}{mb}{GB}{F}{k}{x}{vr vs}{S}{W W'}(h:ou w1 mb GB F k vr vs S W)(f:F[k]? =some x)(g:x.ev.kind≠1)(i:Below W.1.size W W'):ou w1 mb GB F (k+1) vr vs S W':=by
 have:fT F (k+1)=fT F k:=by rw[RI f,O (by simp[g])]
 have⟨a,b,c,d,e⟩:=h.Z i;exact⟨a,by grind,by grind,by grind,e⟩
def Tw{F}{ws}{a}{y}(v)(h:F[a]? =some y):pI F (ws++[a]) v=if y.ev.val==v then pI F ws v++[a]else pI F ws v:=by
 unfold pI
 grind
def afw:(prog.info? 65).map (fun i=>(i.zero,i.size,i.bytes))=some (some nS,1,24):=by kernel_rfl
def ur:(prog.info? 93).map (·.size)=some 336:=by kernel_rfl
section
attribute [local go_sem] kf uq
def X0(g:Nat)(G:Nat->Value)(A:Option Addr)(a1:Nat)(c:List aN)(N:Nat)(w:World)(f:aj w g 93 336 G)(m:G 0= .slice A c.length a1)(u:eG w A c)(aL:∀a,A=some a->a.block≠g/\a.block<w.1.size)
 (a2:G 333=nS)(C:G 334=nS)(bT:N<=6)(E:∀x∈c,x.ev.kind=1\/x.ev.kind=2->x.ev.loc.toNat<N)(aX:c.length<=48):
 Calls prog 102 #[.pointer (g:Nat),.int .i64 N] w fun e aw=>e= .returned (.tuple #[])/\∃R S U cr cs cu,
  aj aw g 93 336 (aU (aU (aU G 333 (.slice R (bu c).length cr)) 334 (.slice S (bF c).length cs)) 335 (.slice U N cu))/\(∀a,R=some a->w.1.size<=a.block/\a.block<aw.1.size)/\fK aw R (ints (bu c))/\
  ky aw w.1.size S (bF c)/\ky aw w.1.size U (gg c N)/\w.grownBy aw (some g):=by
 have⟨bl,ap,bn,bp,bq⟩:=eQ afw;have⟨a3,ah,a4,a5,a7⟩:=eQ Bn;have a8:=f.lt;have ax:=f.C 0 (dr rfl);have s:=f.C 335 (dr rfl);rw[m]at ax;have t:=f.free 335;have ab:=dH f u aL E m a2 C;clear f u aL E m a2 C;have:¬(N:Int)<0:=by omega
 go_enter func102,ntmps102
 go_wp2_with (at_make;refine wpList_make_full w rfl _ _ 91 rfl w.1.size 65 bl _ 1 underlying91 ap bn bp .i64 .i64 N N N rfl rfl rfl rfl (by rw[bq];omega) (by unfold maxLen;omega) (av _) ?_;intro u C m;have s:=iR s m (fun r e=>by cases e);have t:=(m.frozen_far ⟨g,335,none⟩ a8 (by intro e;cases e)).t t;have ax:=iR ax m (fun r e=>by cases e))
 have⟨wb,E⟩:=eX w.1.size;rw[<-E]at C⊢;have I:∀f,f=u.setCell ⟨g,335,none⟩ (.slice wb N N)->tG w g wb G c N 0 (fun _=>nS) f/\f.1.size=u.1.size:=by
  rintro f rfl;have bU:wb≠g:=by omega
  have:(List.replicate N (Value.slice none 0 0)).length=N:=SC;refine⟨⟨(ab.a.K m (by intro e;cases e)).set _ _,?_,fun l bT=>?_,fun l L aM aP a2 b J=>(by cases J),?_⟩,by simp[World.setCell]⟩
  .refine aj.other ((QR C).congr fun j ah=>?_) _ _ bU;show(madeCells #[nS] (N*1)).toList.getD j undef=_;rw[toList_madeCells_one,bj,Jv,aq (by omega)];rfl
  .exact gI _ _ _ _
  exact⟨m.os,m.tape,m.output,by simpa[World.setCell]using m.size,fun q aM aP=>(cP _ _ _ _ (fun e=>aP (cs e))).t (m.block q aM (by intro e;cases e))⟩
 generalize J:u.setCell ⟨g,335,none⟩ (.slice wb N N)=f;have⟨ao,u⟩:=I f J.s;have a9:=aA ao E;have:g<wb:=by omega
 clear I J ao C m ax s t u E
 go_loopw [22] (fun i wr=>∃(k:Nat)(V:Nat->Value),k<=c.length/\i= .int .i64 k/\tG w g wb G c N k V wr) (fun i _=>c.length-(intOf i).toNat)
 case atStart=>exact⟨0,_,aQ _,rfl,a9.a⟩
 obtain⟨k,V,bX,rfl,P⟩:=hrel;have⟨s,bY⟩:=eX wr;subst bY;by_cases bb:k<c.length
 .obtain⟨C,J,rfl,bc,au⟩:=ab.b (by omega);obtain⟨x,ag⟩:∃x,c[k]? =some x:=⟨_,aI bb⟩
  have aS:=(ab.c _ rfl).1;have ch:(k:Int)<c.length:=by omega
  have ci:=P.gr.size;have m:=aY P ag (show s.rangeAt C (J+k*7) ((List.range 7).map (a6 x))from Cj fun j ah=>(P.gr.cell_far ⟨C,J+k*7+j,none⟩ bc (fun e=>aS (aR e))).t (au k x ag j ah)) (show aj (s.alloc (.cells #[.int .i64 0,.int .u8 0,.int .u8 0,.int .u8 0,.int .u8 0,.int .u8 0,.int .u8 0] 143)) s.1.size 143 7 (eS jN)from aj.dq _ _ _ _ _ rfl);clear P au;have al:=ab.d x (cB ag);clear ag;by_cases X:x.ev.kind=2
  .have br:(Y x.ev.kind==2)=true:=oo (b:=2) rfl X;have ad:=aA X al;clear X al
   go_wp2_with (first|(refine iI rfl 143 (.tmp 25) rfl C (J+k*7) rfl ((List.range 7).map (a6 x)) _ m.c iy rfl eH (h:=?_))|(refine eP rfl 143 (.tmp 5) (.tmp 26) rfl s.1.size 0 7 7 143 (eS jN) (a6 x) rfl rfl m.D (dr rfl) eH (fun i _=>sQ _ _) (h:=?_);intro f ae af;have L:aj f s.1.size 143 7 (a6 x):=ae.congr (fun i ap=>by unfold bm;rw[aq ⟨by omega,by omega⟩,ez]);have e1:f.cell? ⟨s.1.size,1,none⟩=some (.int .u8 (Y x.ev.kind)):=L.C 1 (dr rfl);have M:=fJ af;have E:=aA L M;clear ae af L M))
   have⟨l,aa⟩:=eX x.ev.loc.toNat;have ay:l<N:=by rw[aa];exact ad.B (.inr ad.a)
   have⟨n,az⟩:=eX (il c k l).length;have:n<=k:=by rw[az];exact vy _ _ _
   have⟨v,bd⟩:=eX (V l);have Q:=m.a.own l ay;rw[<-bd,<-az]at Q;have⟨aG,aT,aB⟩:=bo Q (dr rfl);have u:v.ownBlock≠some g:=fun e=>by have:=(Q.lt g e).1;omega
   have an:v.ownBlock≠some wb:=ed Q m.a.row (dr rfl);have ar:v.ownBlock≠some s.1.size:=fun e=>by have:=(Q.lt _ e).2;omega
   have I:=m.a.dB.Z E.B m.a.dB.lt;have aC:=m.a.row.Z E.B m.a.row.lt;have ai:∀W',qH f w.1.size 3 1 v n (nums (il c k l)) W'->W'.cell? ⟨g,335,none⟩=some (.slice wb N N):=fun W' t=>(I.K t.1 (fun e=>u e.s)).C 335 (dr rfl);have ak:∀W',qH f w.1.size 3 1 v n (nums (il c k l)) W'->W'.cell? ⟨s.1.size,2,none⟩=some (.int .u8 (l:Int)):=fun W' t=>by
    have:=(E.a.K t.1 (fun e=>ar e.s)).C 2 (dr rfl);rw[this,aa];rfl
   have am:∀W',qH f w.1.size 3 1 v n (nums (il c k l)) W'->W'.cell? ⟨wb,l,none⟩=some (.slice aG n aT):=fun W' t=>by
    rw[(aC.K t.1 (fun e=>an e.s)).C l ay,<-bd,aB]
   have aE:qH f w.1.size 3 1 v n (nums (il c k l)) {f with drawn:=f.drawn+1}:=by
    have h:=bP Q E.B;exact⟨⟨rfl,rfl,rfl,av _,fun _ _ _=>rfl⟩,h⟩
   have bs:¬(l:Int)<0:=by omega
   have bt:(0:Int)<=(l:Int):=by omega
   have bv:(l:Int)<N:=by omega
   have bw:IntKind.u8.wrap (l:Int)=(l:Int):=by have:=x.ev.loc.toNat_lt;simp[IntKind.wrap,IntKind.bits,IntKind.signed];omega
   have cj:=E.B.size;have T:=gQ aa az bd Q I aC u an ar;clear aa az Q I aC u an ar;rw[aB]at ai ak am aE T;refine Bo.j2 (qH f w.1.size 3 1 (.slice aG n aT) n (nums (il c k l))) (E7 _ _ _ _ _ _ _) aE 18 (by kernel_rfl) (by kernel_rfl) ?_;simp only[st1]
   iterate 3(refine Bo.i rfl (fun W' t=>by simp[execOp,go_sem];rfl) ?_;simp only[o])
   refine Bo.i rfl (fun W' t=>by simp[execOp,go_sem,ai W' t];rfl) ?_;simp only[o];refine Bo.i rfl (fun W' t=>by simp[execOp,go_sem];rfl) ?_;simp only[o];refine Bo.i rfl (fun W' t=>by simp[execOp,go_sem,ak W' t];rfl) ?_
   iterate 3(simp only[o];refine Bo.i rfl (fun W' t=>by simp[execOp,go_sem];rfl) ?_)
   simp only[o];refine Bo.i rfl (fun W' t=>by simp[execOp,go_sem,ai W' t];rfl) ?_;simp only[o];refine Bo.i rfl (fun W' t=>by simp[execOp,go_sem];rfl) ?_;simp only[o];refine Bo.i rfl (fun W' t=>by simp[execOp,go_sem,ak W' t];rfl) ?_;simp only[o];refine Bo.i rfl (fun W' t=>by simp[execOp,go_sem,bs,bt,bv,bw];rfl) ?_;simp only[o];refine Bo.i rfl (fun W' t=>by simp[execOp,go_sem,am W' t];rfl) ?_;simp only[o];refine Bo.i rfl (fun W' t=>by simp[execOp,go_sem];rfl) ?_;simp only[o];refine N6 3 #[.int .i64 k] rfl rfl (fun W'=>by simp[execOp,go_sem]) (fun W z _=>trivial) (fun W z h=>(E7 _ _ _ _ _ _ _).alloc W z h) (fun bZ=>?_);simp only[o];refine Ti (.tmp 43) (.tmp 45) 65 rfl rfl f w.1.size 3 a3 _ 1 8 underlying65 ah a4 a5 a7 rfl (dr rfl) (.slice aG n aT) n (nums (il c k l)) rfl bZ 1 1 #[.int .i64 k] rfl rfl (by simp[Value.oneCell']) (fun W h=>h.2) (by unfold maxLen;omega) (by omega) (by omega) ?_;rintro cl ⟨A',cm,rfl⟩ u;simp only[o];refine Bo.i rfl (fun W' t=>by simp[execOp,go_sem,bs,bt,bv,bw];rfl) ?_;simp only[o];refine Bo.oQ ?_;intro w9 ar aV;have f9:w9.frozen? ⟨wb,l,none⟩=false:=(T.f.K ar.1 (fun e=>T.h e.s)).free l;have bx:=am w9 ar;have b0:=aD ar aV u;clear ar aV u ai ak am aE
   go_wp2_with fail
   have⟨aa,az,b1,_⟩:=T.y;have⟨ar,aV,u⟩:=b0.y;rw[b1]at ar u;exact⟨⟨k+1,_,by omega,by go_num,m.a.y6 a8 (by have:=a9.B;omega) m.b ad.a aa ay E.B ar az aV u⟩,by simp[intOf];omega⟩
  have br:(Y x.ev.kind==2)=false:=je (b:=2) rfl X;have ad:=aA X al;clear X al
  go_wp2_with (first|(refine iI rfl 143 (.tmp 25) rfl C (J+k*7) rfl ((List.range 7).map (a6 x)) _ m.c iy rfl eH (h:=?_))|(refine eP rfl 143 (.tmp 5) (.tmp 26) rfl s.1.size 0 7 7 143 (eS jN) (a6 x) rfl rfl m.D (dr rfl) eH (fun i _=>sQ _ _) (h:=?_);intro f ae af;have L:aj f s.1.size 143 7 (a6 x):=ae.congr (fun i ap=>by unfold bm;rw[aq ⟨by omega,by omega⟩,ez]);have e1:f.cell? ⟨s.1.size,1,none⟩=some (.int .u8 (Y x.ev.kind)):=L.C 1 (dr rfl);have M:=fJ af;have E:=aA L M;clear ae af L M))
  exact⟨⟨k+1,_,by omega,by go_num,m.a.DA m.b ad.a E.B⟩,by simp[intOf];omega⟩
 have be:k=c.length:=by omega
 subst be;have⟨ai,am⟩:=eX (aU G 335 (.slice wb N N));have I:=P.dB;rw[<-am]at I;have ax:=I.C 0 (dr rfl);rw[show ai 0= .slice A c.length a1 by rw[am];exact ab.e]at ax;have bz:=I.lt;have X:ou s g ai c 0 nS nS [] s:=by
  refine⟨I.congr fun i ap=>?_,gI _ _ _ _,gI _ _ _ _,fun i r h=>(by simp[fT]at h),⟨rfl,rfl,rfl,av _,fun _ _ _=>rfl⟩⟩;unfold aU;by_cases e1:i=334
  .subst e1;rw[aq rfl,am];exact ab.G
  rw[O e1];by_cases e2:i=333
  .subst e2;rw[aq rfl,am];exact ab.f
  rw[O e2]
 have an:=aY P am I X;clear P am I X;go_wp2
 go_loopw [55] (fun i wr=>∃(k:Nat)(ak vs:Value)(S:List Value),k<=c.length/\i= .int .i64 k/\ou s g ai c k ak vs S wr) (fun i _=>c.length-(intOf i).toNat)
 case atStart=>exact⟨0,_,_,_,aQ _,rfl,an.D⟩
 obtain⟨k,ak,vs,S,bX,rfl,P⟩:=hrel;have⟨X,b2⟩:=eX wr;subst b2;by_cases bb:k<c.length
 .obtain⟨C,J,rfl,bc,au⟩:=ab.b (by omega);obtain⟨x,ag⟩:∃x,c[k]? =some x:=⟨_,aI bb⟩
  have aS:=(ab.c _ rfl).1;have b3:C<s.1.size:=by have:=an.a.gr.size;omega
  have I:∀(i:Nat)(y:aN),c[i]? =some y->∀j,j<7->X.cell? ⟨C,J+i*7+j,none⟩=some (a6 y j):=fun i y aE j ah=>(P.gr.cell_far ⟨C,J+i*7+j,none⟩ b3 (fun e=>aS (aR e))).t ((an.a.gr.cell_far ⟨C,J+i*7+j,none⟩ bc (fun e=>aS (aR e))).t (au i y aE j ah));have:(k:Int)<c.length:=by omega
  have:=P.gr.size;have m:=bM P ag (show X.rangeAt C (J+k*7) ((List.range 7).map (a6 x))from Cj fun j ah=>I k x ag j ah) (show aj (X.alloc (.cells #[.int .i64 0,.int .u8 0,.int .u8 0,.int .u8 0,.int .u8 0,.int .u8 0,.int .u8 0] 143)) X.1.size 143 7 (eS jN)from aj.dq _ _ _ _ _ rfl) I;have al:=ab.d x (cB ag);clear P au I ag;by_cases aC:x.ev.kind=1
  .have br:(Y x.ev.kind !=1)=false:=by rw[bne,oo (a:=x.ev.kind) (b:=1) (z:=1) rfl aC];rfl
   have ad:=aA aC al;clear aC al
   go_upto_region 12 with(first|(refine iI rfl 143 (.tmp 58) rfl C (J+k*7) rfl ((List.range 7).map (a6 x)) _ m.c iy rfl eH (h:=?_))|(refine eP rfl 143 (.tmp 7) (.tmp 59) rfl X.1.size 0 7 7 143 (eS jN) (a6 x) rfl rfl m.d (dr rfl) eH (fun i _=>sQ _ _) (h:=?_);intro f ae af;have L:aj f X.1.size 143 7 (a6 x):=ae.congr (fun i ap=>by unfold bm;rw[aq ⟨by omega,by omega⟩,ez]);have e1:f.cell? ⟨X.1.size,1,none⟩=some (.int .u8 (Y x.ev.kind)):=L.C 1 (dr rfl);have M:=fJ af;have E:=aA L M;clear ae af L M))
   have M:=E.B;have:=M.size;have ao:ou s g ai c k ak vs S f:=m.a.Z M;have⟨l,aa⟩:=eX x.ev.loc.toNat;have ay:l<N:=by rw[aa];exact ad.B (.inl ad.a)
   have:¬(l:Int)<0:=by omega
   have:(0:Int)<=(l:Int):=by omega
   have:(l:Int)<N:=by omega
   have:IntKind.u8.wrap (l:Int)=(l:Int):=by have:=x.ev.loc.toNat_lt;simp[IntKind.wrap,IntKind.bits,IntKind.signed];omega
   have⟨I,aF⟩:=eX (bI c l);have Q:=an.a.own l ay;rw[show il c c.length l=I from aF.s]at Q;have⟨aG,aT,aB,_,_,aH⟩:=tI Q;have aJ:∀a,aG=some a->w.1.size<=a.block/\a.block<s.1.size:=fun a e=>Q.lt a.block (by rw[aB,e];rfl);have au:=ao.dB.C 335 (dr rfl);rw[show aU (aU ai 333 ak) 334 vs 335= .slice wb N N by rw[an.b];rfl]at au;have aW:f.cell? ⟨X.1.size,2,none⟩=some (.int .u8 (l:Int)):=by rw[E.a.C 2 (dr rfl),aa];rfl
   have cr:=(((an.a.row.K ao.gr (sn (by omega))).C l ay)).t (by rw[aB]);have:I.length<=48:=by rw[aF];exact aO (vy _ _ _) aX
   have aK:=fun d ag=>bO au d ag;have aZ:=fun d ag=>bO aW d ag;have dr:=fun d ag=>bO cr d ag;have T:=dC ao aa aF Q aJ aH;clear ao aa aF Q aJ aH M aB;refine bV (by kernel_rfl) ?_
   repeat(first|go_big_quiet_step (fail)|quiet_step (fail))
   refine qn fun cn Q=>?_;clear aK aZ dr au aW cr e1;have b4:=H Q;clear Q;go_wp2
   go_loopw [8,72] (fun Q i wr=>∃j:Nat,j<=I.length/\i= .int .i64 j/\wr.ownsRow f.1.size 3 1 Q (pI c (I.take j) x.ev.val).length (nums (pI c (I.take j) x.ev.val))/\Below f.1.size f wr) (fun _ i _=>I.length-(intOf i).toNat)
   case atStart=>exact⟨0,aQ _,rfl,gI _ _ _ _,b4.y⟩
   obtain⟨j,cp,rfl,u,aa⟩:=hrel;have:=aa.size;by_cases bG:j<I.length
   .have⟨aB,bf,bH,b5,aH⟩:=T.F (by rw[iL];omega);have aJ:=T.e _ bH;subst bH;obtain⟨a,bg⟩:∃a,I[j]? =some a:=⟨_,aI bG⟩
    have ao:=aH j (by rw[iL];exact bG);rw[show(ints I).getD j 0=(a:Int) by unfold ints;rw[bj,dG,bg];rfl]at ao;have b6:aB≠g:=by have:w.1.size<=aB:=aJ.1;omega
    have b7:aB<f.1.size:=by omega
    have:wr.cell? ⟨aB,bf+j,none⟩=some (.int .i64 a):=(aa.C (p:=⟨aB,bf+j,none⟩) b7).t ((T.a.gr.cell_far ⟨aB,bf+j,none⟩ b5 (fun e=>b6 (aR e))).t ao);have aZ:a∈bI c l:=by rw[<-T.c];exact cB bg
    have⟨cq,y,aE,_,_⟩:=Bj.1 aZ;have aW:wr.cell? ⟨C,J+a*7+3,none⟩=some (.int .u8 (Y y.ev.val)):=(aa.C (p:=⟨C,J+a*7+3,none⟩) (by show C<_;omega)).t ((E.B.C (p:=⟨C,J+a*7+3,none⟩) (by show C<_;omega)).t (m.E a y aE 3 (dr rfl)));have aX:wr.cell? ⟨X.1.size,3,none⟩=some (.int .u8 (Y x.ev.val)):=(aa.C (p:=⟨X.1.size,3,none⟩) (by have:=E.a.lt;exact this)).t (E.a.C 3 (dr rfl));have au:wr.cell? (g:Nat)=some (.slice (some ⟨C,J,none⟩) c.length a1):=(aa.C (p:=(g:Nat)) (by show g<_;omega)).t ((T.a.dB.C 0 (dr rfl)).t (by
     rw[show aU (aU ai 333 ak) 334 vs 0=ai 0 from rfl,an.b];exact cs ab.e))
    have:(j:Int)<I.length:=by omega
    have:¬(a:Int)<0:=by omega
    have:(0:Int)<=(a:Int):=by omega
    have:(a:Int)<c.length:=by omega
    have a0:I.take (j+1)=I.take j++[a]:=by rw[jd,bg];rfl
    have bJ:=fun d ag=>bO aW d ag;have bK:=fun d ag=>bO aX d ag;have aK:=fun d ag=>bO au d ag;have b8:(pI c (I.take j) x.ev.val).length<=48:=by
     unfold pI;have:=wM (fun i=>(c[i]?).any fun z=>z.ev.val==x.ev.val) (I.take j);rw[qx]at this;omega
    have⟨ct,aF⟩:=eX (pI c (I.take j) x.ev.val);rw[<-aF]at u b8;have Q:=bM u aa aE a0 aF;have:=E.a.lt;clear u aa aE a0 aH aJ aZ ao aF;by_cases aE:y.ev.val=x.ev.val
    .have bh:(y.ev.val==x.ev.val)=true:=by simp[aE]
     have cv:=H aE;clear aE
     go_upto_region 15 with fail
     refine bV (by kernel_rfl) ?_
     repeat(first|go_big_quiet_step (fail)|quiet_step (fail))
     refine qn fun bL ao=>?_;have:=ao.size;have aH:=aA (bP Q.a ao) ao;clear ao bJ bK aK aW aX au
     go_wp2_with (at_builtin;refine qJ _ rfl _ _ 65 rfl f.1.size 3 a3 _ 1 8 underlying65 ah a4 a5 a7 rfl (dr rfl) _ _ _ rfl (aH.a.alloc _) (bL.1.size:Nat) 1 1 [.int .i64 a] rfl rfl (kN _ _ _) (by simp[Value.oneCell']) (by unfold maxLen;omega) (by omega) (by simp;omega) ?_;intro bQ w9 aJ aF aZ)
     refine⟨⟨j+1,by omega,by go_num,?_,?_⟩,by simp[intOf];omega⟩
     .rw[Q.d,Tw _ Q.c,<-Q.E,aq bh,dc,qz,pG];exact aJ
     have bi:=(Q.b.t (aH.B.m Q.b.size))
     exact(bi.alloc bi.size _).b aF (by have:=bi.size;simp;omega) (fun b e=>(Q.a.lt b e).1)
    have bh:(y.ev.val==x.ev.val)=false:=by simp[aE]
    have:=H aE;clear aE
    go_upto_region 15 with fail
    refine bV (by kernel_rfl) ?_
    repeat(first|go_big_quiet_step (fail)|quiet_step (fail))
    refine qn fun bL ao=>?_;have aH:=H ao;clear ao bJ bK aK aW aX au;go_wp2;refine⟨⟨j+1,by omega,by go_num,?_,Q.b.t (aH.y.m Q.b.size)⟩,by simp[intOf];omega⟩;rw[Q.d,Tw _ Q.c,<-Q.E,O (by rw[bh];simp)];exact bP Q.a aH.y
   have b9:j=I.length:=by omega
   subst b9;rw[nH]at u;have⟨src,au⟩:=eX (pI c I x.ev.val);rw[<-au]at u;have⟨ca,cb,cc⟩:=bo u (dr rfl);subst cc;have ao:ou s g ai c k ak vs S wr:=T.a.Z aa;have bJ:=ao.dB.C 333 (dr rfl);rw[show aU (aU ai 333 ak) 334 vs 333=ak from rfl]at bJ;have cd:=Mz c k;have aW:ak.ownBlock≠some g:=fun e=>by have:=(ao.reads.lt g e).1;omega
   have aK:=bM ao u aa au aW;have⟨aX,aE⟩:=eX (fT c k).length;have a0:=ao.reads;rw[<-aE]at a0 cd;have aZ:=aA a0 aE;clear ao u aa au aW a0 aE
   go_upto_region 19 with(at_builtin;refine DQ _ rfl _ _ 65 rfl s.1.size 3 a3 _ 1 8 underlying65 ah a4 a5 a7 rfl (dr rfl) ak aX (nums (fT c k)) rfl (aZ.a.alloc _) (wr.1.size:Nat) 1 1 [.int .i64 k] rfl rfl (kN _ _ _) (by simp[Value.oneCell']) (by unfold maxLen;omega) (by omega) (by simp;omega) ?_;intro bQ w9 aJ aF bK;have⟨aE,bN,a0⟩:=bo aJ (dr rfl);subst a0;have f9:w9.frozen? ⟨g,333,none⟩=false:=((aK.a.dB.alloc _).K aF (fun e=>aK.E e.s)).free 333;have bx:=((aK.a.dB.alloc _).K aF (fun e=>aK.E e.s)).C 333 (dr rfl))
   have⟨ao,u,aa,au,aW⟩:=aK.y;have a0:src=jK c k:=by
    unfold jK;rw[m.b,au,T.c,T.b]
   rw[a0]at u;have ce:g<s.1.size:=bz;have cf:s.1.size<=f.1.size:=by omega
   have ak:=ao.gB (w9:=w9) ce aZ.B (ft u cf) (fun b aM aP=>by
    have:=(u.lt b aM).1;have:=(m.a.reads.lt b aP).2;omega) aJ aF bK
   rw[<-a0]at ak;have⟨aP,bQ⟩:=eX (w9.setCell ⟨g,333,none⟩ (.slice aE (aX+1) bN));rw[<-bQ]at ak⊢;have aM:=ak.jw;rw[<-aZ.B]at aM;have bS:vs.ownBlock≠some g:=fun e=>by have:=(ak.jw.lt g e).1;omega
   have cg:=ak.dB.C 334 (dr rfl);rw[show aU (aU ai 333 (.slice aE (aX+1) bN)) 334 vs 334=vs from rfl]at cg;have:s.1.size<=aP.1.size:=ak.gr.size;have aE:=aY ak aM bS a0;clear ak aM bS bQ bx f9 bJ aJ aF bK ao u aa au aW a0
   go_wp2_with (at_builtin;refine DQ _ rfl _ _ 91 rfl s.1.size 65 bl _ 1 24 underlying91 ap bn bp bq rfl (dr rfl) vs aX S rfl (aE.b.alloc _) aP 1 1 [.slice ca src.length cb] rfl rfl (kN _ _ _) (by simp[Value.oneCell']) (by unfold maxLen;omega) (by omega) (by simp;omega) ?_;intro aF aa ak u ao;have⟨aJ,aM,au⟩:=bo ak (dr rfl);subst au;have:aa.frozen? ⟨g,334,none⟩=false:=((aE.a.dB.alloc _).K u (fun e=>aE.c e.s)).free 334;have:=((aE.a.dB.alloc _).K u (fun e=>aE.c e.s)).C 334 (dr rfl))
   refine⟨⟨k+1,_,_,_,by omega,by go_num,aE.a.fin (w9:=aa) (k:=k) bz aZ.B m.b ad.a ?_ u ao⟩,by simp[intOf];omega⟩;exact ak
  have:(Y x.ev.kind !=1)=true:=by rw[bne,je (a:=x.ev.kind) (b:=1) (z:=1) rfl aC];rfl
  have ad:=aA aC al;clear aC al
  go_wp2_with (first|(refine iI rfl 143 (.tmp 58) rfl C (J+k*7) rfl ((List.range 7).map (a6 x)) _ m.c iy rfl eH (h:=?_))|(refine eP rfl 143 (.tmp 7) (.tmp 59) rfl X.1.size 0 7 7 143 (eS jN) (a6 x) rfl rfl m.d (dr rfl) eH (fun i _=>sQ _ _) (h:=?_);intro f ae af;have L:aj f X.1.size 143 7 (a6 x):=ae.congr (fun i ap=>by unfold bm;rw[aq ⟨by omega,by omega⟩,ez]);have:f.cell? ⟨X.1.size,1,none⟩=some (.int .u8 (Y x.ev.kind)):=L.C 1 (dr rfl);have M:=fJ af;have E:=aA L M;clear ae af L M))
  exact⟨⟨k+1,_,_,_,by omega,by go_num,m.a.DA m.b ad.a E.B⟩,by simp[intOf];omega⟩
 have be:k=c.length:=by omega
 subst be;have E:=H P;clear P;go_wp2
 go_end0
 have⟨aL,am,_,_⟩:=an.y;have u:=E.y;rw[am]at u;exact⟨rfl,aeT aL u a8 (by have:=a9.B;omega)⟩
end
def jU:Path:=⟨[],[],[],[],fun _=>0⟩
def kP(l:Nat)(v:UInt8):aN:=⟨-1,⟨2,UInt8.ofNat l,v,0,0,0,0,0,0⟩⟩
def qS(init:List UInt8)(k:Nat):List aN:=(List.range k).map fun l=>kP l (init.getD l 0)
def acj(init)(k):qS init (k+1)=qS init k++[kP k (init.getD k 0)]:=by unfold qS;rw[jh,kx];rfl
def Ds(init)(k):(qS init k).length=k:=by unfold qS;simp
def kO(k:Nat)(es:List Ev):List aN:=es.map fun e=>⟨(k:Int),e⟩
def jr(init:List UInt8)(ps:List Path)(k:Nat):List aN:=qS init init.length++(List.range k).flatMap fun i=>kO i (ps.getD i jU).F
def I4(init)(ps)(k):jr init ps (k+1)=jr init ps k++kO k (ps.getD k jU).F:=by unfold jr;rw[jh,oI,kZ];simp
def OE(init)(ps):jr init ps 0=qS init init.length:=by unfold jr;simp
def bd(init:List UInt8)(ps:List Path):List aN:=jr init ps ps.length
def gR(init:List UInt8)(ps:List Path):Nat->Nat
 |0=>init.length
 |k+1=>gR init ps k+(ps.getD k jU).F.length
def wU(init)(ps)(k):(jr init ps k).length=gR init ps k:=by
 induction k with
 |zero=>rw[OE,Ds];rfl
 |succ k a=>rw[I4,dc,a];unfold kO;rw[cV];rfl
def JM(init)(ps){a b}(h:a<=b):gR init ps a<=gR init ps b:=by
 induction b with
 |zero=>rw[show a=0 by omega];exact av _
 |succ b c=>
  by_cases a=b+1
  .grind
  show _<=gR init ps b+_;omega
def ma(eW:Path->List (Nat×Nat))(init:List UInt8)(ps:List Path):Nat->Rl.Rows
 |0=>E
 |k+1=>eU (ma eW init ps k) (gR init ps k) (eW (ps.getD k jU))
def DZ(ps:List Path)(k:Nat):Nat->UInt8:=fun j=>if j<8*k then(ps.getD (j/8) jU).L (j%8)else 0
structure XE where
 n:Int
 row:Nat->Rl.Rows
 L:Nat->UInt8
 mem:Nat->UInt8
def xG(a:XE)(b:Value)(i:Nat):Value:=
 if i=0 then b else if i<295 then(if(i-1)%49=0 then .int .i64 a.n else .int .u64 (Bv.U (a.row ((i-1)/49) ((i-1)%49-1))))
 else if i<327 then .int .u8 (Y (a.L (i-295)))else .int .u8 (Y (a.mem (i-327)))
def setRow(a:XE)(k:Nat)(f:Rl.Rows):XE:={a with row:=P a.row k f}
def Eo(a:XE)(k:Nat)(f:Nat->UInt8):XE:={a with L:=fun j=>if 8*k<=j/\j<8*k+8 then f (j-8*k)else a.L j}
def Fm(a:XE)(l:Nat)(v:UInt8):XE:={a with mem:=P a.mem l v}
def Gv(X){ve}(a:ve.oneCell'=true)(i):(xG X ve i).oneCell'=true:=by
 unfold xG;split;·exact a
 split
 .split<;>rfl
 split<;>rfl
def nV(X)(ve):xG X ve 0=ve:=rfl
def M0(X)(ve v)(i):aU (xG X ve) 0 v i=xG X v i:=by
 unfold aU xG
 grind
def EE(X)(ve)(k)(a:k<6):xG X ve (1+49*k)= .int .i64 X.n:=by
 unfold xG
 grind
def xe(X)(ve)(k i)(a:k<6)(b:i<48):xG X ve (1+49*k+1+i)= .int .u64 (Bv.U (X.row k i)):=by
 unfold xG
 grind
def CS(X)(ve)(k)(b:k<6)(f)(i):jI (xG X ve) (1+49*k) f i=xG (setRow X k f) ve i:=by
 unfold jI xG setRow;dsimp only;by_cases h:1+49*k+1<=i/\i<1+49*k+49
 .rw[aq h,O (by omega),aq (by omega),O (by omega),show(i-1)/49=k by omega,bc,show i-(1+49*k)-1=(i-1)%49-1 by omega]
 rw[O h];by_cases i=0
 .grind
 by_cases i<295
 .by_cases a:(i-1)%49=0
  .grind
  rw[O a,O a,bf];omega
 grind
def WM(X)(ve)(j)(a:j<32):xG X ve (295+j)= .int .u8 (Y (X.L j)):=by
 unfold xG
 grind
def aac(X)(ve)(k)(a:k<4)(f)(i):bm (xG X ve) (295+8*k) 8 (fun j=> .int .u8 (Y (f j))) i=xG (Eo X k f) ve i:=by
 unfold bm xG Eo
 grind
def L9(X)(ve)(l):xG X ve (327+l)= .int .u8 (Y (X.mem l)):=by
 unfold xG
 grind
def VO(X)(ve)(l)(v:UInt8)(i):aU (xG X ve) (327+l) v i=xG (Fm X l v) ve i:=by
 unfold aU xG Fm;dsimp only;by_cases h:i=327+l
 .subst h;rw[aq rfl,O (by omega),O (by omega),O (by omega),tE,bc]
 rw[O h];by_cases i=0
 .grind
 by_cases i<295
 .grind
 by_cases a:i<327
 .grind
 rw[O a,O a,bf _ _ (by omega)]
def mG(a:XE)(b c vs e:Value)(i:Nat):Value:=if i<333 then xG a b i else if i=333 then c else if i=334 then vs else e
def yy(X)(ve vr vs vw){i}(h:i<333):mG X ve vr vs vw i=xG X ve i:=aq h
def Mg(X){ve vr vs vw}(a:ve.oneCell'=true)(b:vr.oneCell'=true)(c:vs.oneCell'=true)(e:vw.oneCell'=true)(i):(mG X ve vr vs vw i).oneCell'=true:=by
 unfold mG;split;·exact Gv X a i
 grind
def JG(X)(ve vr vs vw):mG X ve vr vs vw 333=vr:=rfl
def Gi(X)(ve vr vs vw):mG X ve vr vs vw 334=vs:=rfl
def V2(X)(ve vr vs vw):mG X ve vr vs vw 335=vw:=rfl
def abN(X)(ve a b c vr vs vw)(i)(e:i<336):aU (aU (aU (mG X ve a b c) 333 vr) 334 vs) 335 vw i=mG X ve vr vs vw i:=by
 unfold aU mG
 grind
def aax{X X'}{ve ve' vr vs vw v}{o}(a:o<333)(h:∀i,aU (xG X ve) o v i=xG X' ve' i)(i):aU (mG X ve vr vs vw) o v i=mG X' ve' vr vs vw i:=by
 unfold aU mG at*
 grind
def RU{X X'}{ve vr vs vw}{o m}{h}(a:o+m<=333)(b:∀i,bm (xG X ve) o m h i=xG X' ve i)(i):bm (mG X ve vr vs vw) o m h i=mG X' ve vr vs vw i:=by
 unfold bm mG at*
 grind
def U4{X}{ve vr vs vw}{k}(a:k<6)(f)(i):jI (mG X ve vr vs vw) (1+49*k) f i=mG (setRow X k f) ve vr vs vw i:=by
 have:=CS X ve k a f i;unfold jI mG at*
 grind
def dz(n:Int)(f:Rl.Rows)(i:Nat):Value:=if i=0 then .int .i64 n else .int .u64 (Bv.U (f (i-1)))
def nN(n)(f):ar n f=J 49 (dz n f):=by
 congr 1
def aeZ(n)(f)(i):(dz n f i).oneCell'=true:=by unfold dz;split<;>rfl
def adX(X)(ve)(k)(a:k<6)(f)(i):bm (xG X ve) (1+49*k) 49 (dz X.n f) i=xG (setRow X k f) ve i:=by
 rw[<-CS X ve k a f i];unfold bm jI;by_cases h:1+49*k+1<=i/\i<1+49*k+49
 .unfold dz
  grind
 rw[O h];by_cases e:i=1+49*k
 .subst e;rw[aq ⟨by omega,by omega⟩,EE X ve k a,Dt];rfl
 grind
def dw(n:Int)(init:List UInt8)(ps:List Path)(k:Nat):XE where
 n:=n
 row:=fun r=>if r=3 then ma Path.data init ps k else if r=4 then ma Path.A init ps k else if r=5 then ma Path.dP init ps k else E
 L:=DZ ps k
 mem:=fun _=>0
def agN(n)(init)(ps):dw n init ps 0=⟨n,fun _=>E,fun _=>0,fun _=>0⟩:=by
 unfold dw;congr 1;funext r;split;·rfl
 split;·rfl
 split<;>rfl
def aaS(n)(init)(ps)(k):Eo (setRow (setRow (setRow (dw n init ps k) 3 (ma Path.data init ps (k+1))) 4 (ma Path.A init ps (k+1))) 5 (ma Path.dP init ps (k+1))) k (ps.getD k jU).L=dw n init ps (k+1):=by
 unfold Eo setRow dw;simp only[XE.mk.injEq,zN,BZ];constructor
 .unfold P
  grind
 funext j;unfold DZ;by_cases h:8*k<=j/\j<8*k+8
 .rw[aq h,aq (by omega),show j/8=k by omega,show j%8=j-8*k by omega]
 rw[O h];by_cases a:j<8*k
 .rw[aq a,aq (by omega)]
 rw[O a,O (by omega)]
def aa1(n)(init)(ps)(k):(dw n init ps k).row 3=ma Path.data init ps k:=rfl
def Zy(n)(init)(ps)(k):(dw n init ps k).row 4=ma Path.A init ps k:=rfl
def abL(n)(init)(ps)(k):(dw n init ps k).row 5=ma Path.dP init ps k:=rfl
def adr(n)(init)(ps)(k):(dw n init ps k).n=n:=rfl
def fU(init:List UInt8)(ps:List Path):XE:=setRow (dw (gR init ps ps.length) init ps ps.length) 0 (oP (bd init ps))
attribute [irreducible] xG mG dz dw
end Go.Proofs.YtilhngjecfdgpaaGreatDoor
