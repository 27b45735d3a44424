/- Part 6 of 9 of the proof of seisintop.TopPSO (theorem topPSO.card, at the end of the last part), its names and blanks shortened by a program to fit a claim's bound; it holds the texts Pd Pe Qa Wa Lb Lc Ld Le Pf Pg Lf Ua Ub Uc Ud Lg Qb Ph Qc Qd Qe Li Lj Ll Ue Uf Ui Uj, one behind the other. -/
import Derived.Test.YtilhngjecfdgpaaGreatDoorTe
set_option linter.all false
set_option linter.defProp false
set_option linter.unusedVariables false
set_option linter.unusedSimpArgs false
set_option maxRecDepth 100000
set_option maxHeartbeats 16000000
namespace Go.Proofs.YtilhngjecfdgpaaGreatDoor
open Go.RowKit Go.Shelf Go.Proofs.Tryz
section
namespace Am
variable{i:Nat->UInt8}{A:Am}
def base(A:Am):Option Pt->Nat
 |none=>0
 |some s=>(A.key s+1)*(2*A.now+1)
def ck(A:Am)(a:Pt):Nat:=if A.kd a=1 then A.base (A.src a)+1+A.key a else A.base (some a)
def FE{a b}(h:A.key a<A.key b):A.base (some a)+(2*A.now+1)<=A.base (some b):=by
 unfold base;have:(A.key a+1+1)*(2*A.now+1)<=(A.key b+1)*(2*A.now+1):=xq _ (by omega)
 grind
def Q8(a):2*A.now+1<=A.base (some a):=by unfold base;exact JY _ (by omega)
structure End(i:Nat->UInt8)(A:Am):Prop where
 inv:Inv i A
 I:∀t,A.I t=[]
def End.d(h:End i A){a}(g:A.In a)(o:A.kd a=2):A.D a:=by
 obtain f|r:=h.inv.wall a g o
 .unfold B at f;rw[h.I]at f;cases f
 omega
def End.k(h:End i A){a}(g:A.In a)(f:A.kd a=1\/A.kd a=2):A.K a:=f.imp id fun f=>⟨f,h.d g f⟩
def End.lt(h:End i A){a}(f:A.In a)(g:A.kd a=1\/A.kd a=2):A.key a<2*A.now:=h.inv.xc f (h.k f g)
def End.Ug(h:End i A){a}(f:A.In a)(g:A.kd a=2):A.key a%2=1:=(h.inv.cin _ _ (h.d f g)).2.2.2.2.2
def End.EK(h:End i A){a b}(f:A.ze b a):A.key b<A.key a:=by
 obtain f|f|f:=f
 .omega
 .have:=f.2;unfold B at this;rw[h.I]at this
  grind
 have:=f.1;unfold B at this;rw[h.I]at this
 grind
def End.le(h:End i A){b}{s}(g:A.Le b s):∃a,s=some a/\A.key b<=A.key a:=by
 obtain⟨a,e,f⟩:=g;refine⟨a,e,?_⟩;obtain rfl|f:=f
 .omega
 exact nu (h.EK f)
def End.TK(h:End i A){b}{s}(f:A.Le b s):A.base (some b)<=A.base s:=by
 obtain⟨a,rfl,g⟩:=h.le f;exact xq _ (by omega)
def End.fr(h:End i A){r b}(o:A.In r)(u:A.kd r=1)(f:A.In b)(g:A.kd b=2)(w:A.lo b=A.lo r)(y:∀s,A.src r=some s->A.key s<A.key b):A.key r<A.key b:=by
 apply ki;intro C;have:=(h.inv.wG r o u).2;have:=h.Ug f g;have⟨a,e,E⟩:=h.le ((h.inv.src r o u).bZ b f g w (h.d f g) (by omega))
 grind
def End.Js(h:End i A){r s:Pt}(f:A.In r)(g:A.kd r=1)(o:A.src r=s)(w:s.1≠r.1):A.key s<A.key r:=by
 obtain u|u:=((h.inv.src r f g).at_ s o).2.2.2
 .omega
 omega
def End.kp(h:End i A){t p q:Nat}(g:p<q)(f:q<(A.es t))(o:A.kd (t,p)=1\/A.kd (t,p)=2)(r:A.kd (t,q)=1\/A.kd (t,q)=2)(u:A.Kp (t,p) (t,q)):A.key (t,p)<A.key (t,q):=
 (h.inv.kp t p q g f o (h.k f r) u).2
def End.at_(h:End i A){w b}(f:A.In w)(y:A.kd w=2)(C:A.md w=3)(g:A.In b)(r:A.kd b=2)(E:A.key (w.1,w.2-1)<A.key b):¬A.key b<A.key w:=by
 intro F;have⟨H,u,g3⟩:=h.inv.at_ w f y C
 have o:A.In (w.1,w.2-1):=by have f:w.2<(A.es w.1):=f;show w.2-1<(A.es w.1);omega
 have:=(h.inv.wG _ o u).2;have:=h.Ug g r;have:=h.inv.inj b _ g o (h.k g (.inr r)) (h.k o (.inl u)) (by omega)
 grind
def End.rf(h:End i A){r}(f:A.kd r=1):A.base (A.src r)<A.ck r:=by unfold ck;rw[aq f];omega
def End.uV{a}(f:A.kd a=2):A.ck a=A.base (some a):=by unfold ck;rw[O fun e=>ij e f]
def End.Np(h:End i A){r}(g:A.In r)(f:A.kd r=1):A.ck r<A.base (A.src r)+(2*A.now+1):=by
 unfold ck;rw[aq f];have:=(h.inv.wG r g f).1;omega
def End.Wh(h:End i A){t p q:Nat}(o:p<q)(r:q<(A.es t))(L:A.kd (t,p)=1\/A.kd (t,p)=2)(M:A.kd (t,q)=1\/A.kd (t,q)=2)(u:A.lo (t,p)=A.lo (t,q)):A.ck (t,p)<A.ck (t,q):=by
 have E:A.In (t,p):=lZ o r;have F:A.In (t,q):=r;obtain k1|k1:=L<;>obtain f|f:=M
 .have:=h.kp o r (.inl k1) (.inl f) (.inl k1);have:A.base (A.src (t,p))<=A.base (A.src (t,q)):=by
   cases e:A.src (t,p)with
   |none=>exact aQ _
   |some s=>
    have⟨J,y,C,g⟩:=(h.inv.src _ E k1).at_ s e
    refine h.TK ?_;obtain⟨g,w⟩|⟨g,w⟩:=g
    .exact(h.inv.src _ F f).bZ s J y (C.t u) g (by omega)
    obtain⟨H,I⟩:=s;obtain rfl:H=t:=g;exact(h.inv.src _ F f).own I (by omega) y (C.t u)
  unfold ck
  grind
 .rw[End.uV f];refine aW (h.Np E k1) ?_;cases e:A.src (t,p)with
  |none=>exact aO (by show 0+(2*A.now+1)<=2*A.now+1;omega) (Q8 (t,q))
  |some s=>
   have⟨J,y,C,g⟩:=(h.inv.src _ E k1).at_ s e
   refine FE ?_;obtain⟨g,w⟩|⟨g,w⟩:=g
   .exact lZ w (h.kp o r (.inl k1) (.inr f) (.inl k1))
   obtain⟨H,I⟩:=s;obtain rfl:H=t:=g;exact h.kp (p:=I) (lZ w o) r (.inr y) (.inr f) (.inr (.inr (.inr (.inr ⟨f,.inl (C.t u)⟩))))
 .rw[End.uV k1];exact nh (h.TK ((h.inv.src _ F f).own p o k1 u)) (h.rf f)
 rw[End.uV k1,End.uV f];have:=FE (h.kp o r (.inr k1) (.inr f) (.inr (.inr (.inr (.inr ⟨f,.inl u⟩)))));omega
def End.Wu(h:End i A){r b}(f:A.In r)(g:A.kd r=1)(o:A.kd b=2)(u:∀s,A.src r=some s->A.key s<A.key b):A.ck r<A.ck b:=by
 rw[End.uV o];refine aW (h.Np f g) ?_;cases e:A.src r with
 |none=>exact aO (by show 0+(2*A.now+1)<=2*A.now+1;omega) (Q8 b)
 |some s=>exact FE (u s e)
end Am
end
def jQ(r:aK):List Ev:=(List.range r.many).map r.ev
def DX(r):(jQ r).length=r.many:=by unfold jQ;simp
def Og(r){p}(h:p<r.many):(jQ r).getD p jN=r.ev p:=by unfold jQ;simp[bj,h]
def K7{r r'}(k)(a:r'.many=r.many+k)(b:∀p,p<r.many->r'.ev p=r.ev p):jQ r'=jQ r++(List.range k).map fun j=>r'.ev (r.many+j):=by
 unfold jQ;rw[a,List.range_add,kx,pN];congr 1;simp_all
def acJ{r r'}(a:r'.many=r.many+1)(b:∀p,p<r.many->r'.ev p=r.ev p):jQ r'=jQ r++[r'.ev r.many]:=K7 1 a b
def Y5{r r'}(a:r'.many=r.many+2)(b:∀p,p<r.many->r'.ev p=r.ev p):jQ r'=jQ r++[r'.ev r.many,r'.ev (r.many+1)]:=K7 2 a b
def C9(r)(x)(v){p}(b:p<r.many):(bw r x v).ev p=r.ev p:=by
 have:∀(f:Nat->Ev)(k:Nat)(u:Ev),r.many<=k->P f k u p=f p:=fun f k u a=>bf _ _ (by omega);unfold bw eF;have⟨k,a⟩:=eX x.op.toNat;rw[<-a];obtain _|_|_|_|_|_|_|_|k:=k<;>simp only[yp,yj,wW,zP,xN,qk,xg,pj,nC,oN,iZ]
 .grind
 .grind
 .grind
 .grind
 .split
  .grind
  grind
 grind
structure yd(e:Ev)(k l v m:UInt8):Prop where
 kind:e.kind=k
 loc:e.loc=l
 val:e.val=v
 mode:e.mode=m
def Dc{r}{x}{v}(h:x.op=1):(bw r x v).many=r.many+1/\yd ((bw r x v).ev r.many) 1 x.loc v x.mode:=by
 unfold bw eF;rw[h];simp only[show(1:UInt8).toNat=1 from rfl,yp,oN,iZ];exact⟨trivial,by rw[bc];exact⟨rfl,rfl,rfl,rfl⟩⟩
def vV{r}{x}{v}(h:x.op=2):(bw r x v).many=r.many+1/\yd ((bw r x v).ev r.many) 2 x.loc (bU r x.a) x.mode:=by
 unfold bw eF;rw[h];simp only[show(2:UInt8).toNat=2 from rfl,yj,iZ];exact⟨trivial,by rw[bc];exact⟨rfl,rfl,rfl,rfl⟩⟩
def xX{r}{x}{v}(h:x.op=7):(bw r x v).many=r.many+1/\yd ((bw r x v).ev r.many) 3 0 0 x.mode:=by
 unfold bw eF;rw[h];simp only[show(7:UInt8).toNat=7 from rfl,xg,iZ];exact⟨trivial,by rw[bc];exact⟨rfl,rfl,rfl,rfl⟩⟩
def y5{r}{x}{v}(h:x.op=3\/x.op=8):(bw r x v).many=r.many:=by
 unfold bw eF;obtain h|h:=h<;>rw[h]<;>rfl
def my(r:aK)(x:Ins)(v:UInt8):Option UInt8:=if x.op=4 then some (bU r x.a)else if x.op=5 then some (v+bU r x.a)else if v=bU r x.a then some (bU r x.b)else none
def Jr(r)(x)(bZ val)(dI):(nC r x bZ val dI).many=r.many+2/\yd ((nC r x bZ val dI).ev r.many) 1 x.loc bZ 3/\yd ((nC r x bZ val dI).ev (r.many+1)) 2 x.loc val 3:=by
 simp only[nC,oN,iZ];refine⟨trivial,?_,?_⟩
 .rw[bf _ _ (by omega),bf _ _ (by omega),bc];exact⟨rfl,rfl,rfl,rfl⟩
 rw[bc,bc];exact⟨rfl,rfl,rfl,rfl⟩
def tC{r}{x}{v}(h:x.op=4\/x.op=5\/x.op=6):yd ((bw r x v).ev r.many) 1 x.loc v 3/\
 match my r x v with
 |some u=>(bw r x v).many=r.many+2/\yd ((bw r x v).ev (r.many+1)) 2 x.loc u 3
 |none=>(bw r x v).many=r.many+1:=by
 unfold bw eF my;obtain h|h|h:=h<;>rw[h]
 .have⟨b,c,a⟩:=Jr r x v (bU r x.a) (cW r x.a);exact⟨c,b,a⟩
 .have⟨b,c,a⟩:=Jr r x v (v+bU r x.a) (cW r x.a);simp only[show(5:UInt8).toNat=5 from rfl,xN];refine⟨?_,b,?_⟩
  .rw[bf _ _ (by omega)];exact c
  rw[bc];exact⟨a.kind,a.loc,a.val,a.mode⟩
 simp only[show(6:UInt8).toNat=6 from rfl,qk];by_cases e:v=bU r x.a
 .have⟨b,c,a⟩:=Jr r x v (bU r x.b) (cW r x.b);simp only[aq e];refine⟨?_,b,?_⟩
  .rw[bf _ _ (by omega)];exact c
  rw[bc];exact⟨a.kind,a.loc,a.val,a.mode⟩
 simp only[O e,oN,iZ];exact⟨by rw[bc];exact⟨rfl,rfl,rfl,rfl⟩,trivial⟩
structure Mc where
 run:Nat->aK
 a:Am
namespace Mc
def dM(M:Mc)(i:Nat->UInt8)(t:Nat)(x:Ins):UInt8:=M.a.wv i x.loc.toNat (M.a.fD t x.loc.toNat)
def next(M:Mc)(i:Nat->UInt8)(t:Nat)(x:Ins):aK:=bw (M.run t) x (M.dM i t x)
def ex(M:Mc)(i:Nat->UInt8)(t:Nat)(x:Ins)(a:Am):Mc:=⟨P M.run t (M.next i t x),a⟩
def e1(M:Mc)(i:Nat->UInt8)(t:Nat)(x:Ins):Ev:=(M.next i t x).ev (M.run t).many
def e2(M:Mc)(i:Nat->UInt8)(t:Nat)(x:Ins):Ev:=(M.next i t x).ev ((M.run t).many+1)
end Mc
def start:Mc:=⟨fun _=>jL,⟨fun _=>[],fun _=>[],fun _=>[],fun _=>none,fun _=>0,0⟩⟩
inductive Mv(code:Nat->List Ins)(n:Nat)(i:Nat->UInt8)(M:Mc):Mc->Prop
 |load {t:Nat} {x:Ins} (ht:t<n) (hx:(code t)[(M.run t).pc]? =some x) (ho:x.op=1):Mv code n i M (M.ex i t x (M.a.rd t (M.e1 i t x)))
 |store {t:Nat} {x:Ins} (ht:t<n) (hx:(code t)[(M.run t).pc]? =some x) (ho:x.op=2):Mv code n i M (M.ex i t x (M.a.wr t (M.e1 i t x)))
 |dP {t:Nat} {x:Ins} {u:UInt8} (ht:t<n) (hx:(code t)[(M.run t).pc]? =some x) (ho:x.op=4\/x.op=5\/x.op=6) (hb:M.a.I t=[]) (hu:my (M.run t) x (M.dM i t x)=some u):Mv code n i M (M.ex i t x ((M.a.rd t (M.e1 i t x)).put t (M.e2 i t x)))
 |B7 {t:Nat} {x:Ins} (ht:t<n) (hx:(code t)[(M.run t).pc]? =some x) (ho:x.op=4\/x.op=5\/x.op=6) (hb:M.a.I t=[]) (hu:my (M.run t) x (M.dM i t x)=none):Mv code n i M (M.ex i t x (M.a.rd t (M.e1 i t x)))
 |Cb {t:Nat} {x:Ins} (ht:t<n) (hx:(code t)[(M.run t).pc]? =some x) (ho:x.op=7) (hb:x.mode=3\/x.mode=5->M.a.I t=[]):Mv code n i M (M.ex i t x (M.a.fe t (M.e1 i t x)))
 |quiet {t:Nat} {x:Ins} (ht:t<n) (hx:(code t)[(M.run t).pc]? =some x) (ho:x.op=3\/x.op=8):Mv code n i M (M.ex i t x M.a)
 |drain {t l p:Nat} (hp:(M.a.gE t l).head?=some p):Mv code n i M ⟨M.run,M.a.dr t l p⟩
inductive nj(code:Nat->List Ins)(n:Nat)(i:Nat->UInt8)(M:Mc):Mc->Prop
 |refl:nj code n i M M
 |step {M1 M2:Mc} (h:nj code n i M M1) (h2:Mv code n i M1 M2):nj code n i M M2
def nj.t{code}{n}{i}{M M1 M2}(h:nj code n i M M1)(f:nj code n i M1 M2):nj code n i M M2:=by
 induction f with
 |refl=>exact h
 |step _ g o=>exact .step o g
def xH(x:Ins):Prop:=(x.op=1->x.mode≠3)/\(x.op=2->x.mode≠3)
structure iB(i:Nat->UInt8)(M:Mc):Prop where
 es:∀t,M.a.es t=jQ (M.run t)
 inv:M.a.Inv i
def Nc(i):iB i start:=by
 refine⟨fun t=>rfl,?_⟩;have c:∀a,¬start.a.In a:=fun a h=>jD _ h;exact⟨fun a h=>(sV h).elim,fun t=>List.Pairwise.nil,fun l a h=>(sV h).elim,fun l=>List.Pairwise.nil,fun a h=>absurd h (c a),fun a h=>absurd h (c a),fun a b h=>absurd h (c a),fun t p f h=>(sV h).elim,fun t p q _ h=>absurd h (c (t,q)),fun a h=>absurd h (c a),fun a h=>absurd h (c a)⟩
def Mv.ok{code}{n}{i}{M M'}(J:∀t x,x∈code t->xH x)(h:iB i M)(C:Mv code n i M M'):iB i M':=by
 have len:∀t,(M.a.es t).length=(M.run t).many:=fun t=>by rw[h.es,DX]
 have one:∀{t:Nat}{x:Ins},(M.next i t x).many=(M.run t).many+1->∀u,M.a.more t (M.e1 i t x) u=jQ (P M.run t (M.next i t x) u):=by
  intro t x o u;unfold Am.more P;by_cases e:u=t
  .subst e;rw[aq rfl,aq rfl,h.es,acJ o fun p w=>C9 _ _ _ w];rfl
  rw[O e,O e,h.es]
 cases C with
 |@load t x F y g=>
  have⟨H,f⟩:=Dc (r:=M.run t) (v:=M.dM i t x) g;refine⟨one H,Am.Bq h.inv f.kind ?_ fun o=>?_⟩
  .show(M.e1 i t x).val=M.a.wv i (M.e1 i t x).loc.toNat (M.a.fD t (M.e1 i t x).loc.toNat);rw[show(M.e1 i t x).loc=x.loc from f.loc];exact f.val
  exact absurd (f.mode.s.t o) ((J t x (cB y)).1 g)
 |@store t x F y g=>
  have⟨H,f⟩:=vV (r:=M.run t) (v:=M.dM i t x) g;exact⟨one H,Am.Nl h.inv f.kind fun o=>(J t x (cB y)).2 g (f.mode.s.t o)⟩
 |@dP t x u F y g E I=>
  have⟨f,C⟩:=tC (r:=M.run t) (v:=M.dM i t x) g;rw[I]at C;obtain⟨C,Q⟩:=C;have R:=Am.Bq h.inv f.kind (by
   show(M.e1 i t x).val=M.a.wv i (M.e1 i t x).loc.toNat (M.a.fD t (M.e1 i t x).loc.toNat);rw[show(M.e1 i t x).loc=x.loc from f.loc];exact f.val) fun _=>E
  have L:(M.a.rd t (M.e1 i t x)).es t=jQ (M.run t)++[M.e1 i t x]:=by
   show M.a.more t (M.e1 i t x) t=_;unfold Am.more;rw[bc,h.es]
  have N:((M.a.rd t (M.e1 i t x)).es t).length-1=(M.a.es t).length:=by rw[L,len];simp[DX]
  refine⟨fun u=>?_,Am.QM R Q.kind E (by grind) ?_ ?_⟩
  .show P (M.a.rd t (M.e1 i t x)).es t ((M.a.rd t (M.e1 i t x)).es t++[M.e2 i t x]) u=jQ (P M.run t (M.next i t x) u);by_cases e:u=t
   .subst e;rw[bc,bc,L,Y5 (r:=M.run u) (r':=M.next i u x) C fun p w=>C9 _ _ _ w,kZ];rfl
   rw[bf _ _ e,bf _ _ e];show M.a.more t (M.e1 i t x) u=_;unfold Am.more;rw[bf _ _ e,h.es]
  .rw[N];show(M.a.rd t (M.e1 i t x)).kd (M.a.nx t)=1;unfold Am.kd;rw[Am.xK (A:=M.a) rfl];exact f.kind
  rw[N];show yF M.a.key (M.a.nx t) (2*M.a.now) (M.a.nx t)+2=2*(M.a.now+1)
  rw[Dv];omega
 |@B7 t x F y g E I=>
  have⟨f,C⟩:=tC (r:=M.run t) (v:=M.dM i t x) g;rw[I]at C;refine⟨one C,Am.Bq h.inv f.kind ?_ fun _=>E⟩;show(M.e1 i t x).val=M.a.wv i (M.e1 i t x).loc.toNat (M.a.fD t (M.e1 i t x).loc.toNat);rw[show(M.e1 i t x).loc=x.loc from f.loc];exact f.val
 |@Cb t x F y g E=>
  have⟨H,f⟩:=xX (r:=M.run t) (v:=M.dM i t x) g;refine⟨one H,Am.Sf h.inv f.kind fun o=>E ?_⟩;rw[show(M.e1 i t x).mode=x.mode from f.mode]at o;exact o
 |@quiet t x F y g=>
  refine⟨fun u=>?_,h.inv⟩;show M.a.es u=jQ (P M.run t (M.next i t x) u);rw[h.es];by_cases e:u=t
  .subst e;rw[bc];have o:(M.next i u x).many=(M.run u).many+0:=y5 g;rw[K7 0 o fun p w=>C9 _ _ _ w];simp
  rw[bf _ _ e]
 |drain w=>exact⟨h.es,Am.NB h.inv w⟩
abbrev Bf:Type:=List (UInt8×UInt8)
structure Ms where
 C:Nat->Nat->UInt8
 mem:Nat->UInt8
 I:Nat->Bf
def ir(b:Bf)(j:Nat):UInt8:=if j%2=0 then(b.getD (j/2) (0,0)).1 else(b.getD (j/2) (0,0)).2
def aB(M:Ms):St:=fun i=>if i<36 then M.C (i/9) (i%9)else if i<42 then M.mem (i-36)else if i<138 then ir (M.I ((i-42)/24)) ((i-42)%24)else UInt8.ofNat (M.I (i-138)).length
def nA(M){t j}(a:t<4)(b:j<9):aB M (9*t+j)=M.C t j:=by
 unfold aB
 grind
def ox(M){l}(a:l<6):aB M (36+l)=M.mem l:=by
 unfold aB
 grind
def mD(M){t j}(a:t<4)(b:j<24):aB M (42+24*t+j)=ir (M.I t) j:=by
 unfold aB
 grind
def oS(M){t}(a:t<4):aB M (138+t)=UInt8.ofNat (M.I t):=by
 unfold aB
 grind
def BV{P:Nat->Prop}(a:∀t j,t<4->j<9->P (9*t+j))(b:∀l,l<6->P (36+l))(c:∀t j,t<4->j<24->P (42+24*t+j))(e:∀t,t<4->P (138+t)):∀i,i<142->P i:=by
 intro i f;by_cases i<36
 .have:=a (i/9) (i%9) (by omega) (by omega)
  grind
 by_cases i<42
 .have:=b (i-36) (by omega)
  grind
 by_cases i<138
 .have:=c ((i-42)/24) ((i-42)%24) (by omega) (by omega)
  grind
 have:=e (i-138) (by omega)
 grind
def pZ(M:Ms)(t:Nat)(l:UInt8):UInt8:=match ((M.I t).filter fun e=>e.1==l).getLast? with
 |some e=>e.2
 |none=>M.mem l.toNat
def oZ(b:Bf)(e:UInt8×UInt8):Bf:=b.filter (fun x=>decide (x.1<=e.1))++e::b.filter (fun x=>decide (e.1<x.1))
def tB(b:Bf)(l:UInt8):Bf:=b.eraseP fun e=>e.1==l
def yP(b:Bf)(l:UInt8):UInt8:=((b.find? fun e=>e.1==l).getD (0,0)).2
def uk(x:Ins)(bZ a b:UInt8):UInt8:=if x.op=4 then a else if x.op=5 then bZ+a else if bZ=a then b else bZ
def uZ(f:Nat->UInt8):Nat->UInt8:=fun r=>f (1+r)
def LS(a:Arg)(b:Nat->UInt8):UInt8:=if a.cY then b a.n.toNat else a.n
def kC(f:Nat->UInt8)(a:Arg):UInt8:=LS a (uZ f)
def l9(x:Ins)(f:Nat->UInt8):Nat->UInt8:=
 if x.op=3 then P (P f (1+x.dst.toNat) (nL x.fn (kC f x.a) (kC f x.b))) 0 (f 0+1)
 else if x.op=8 then P f 0 ((if qE x.fn (kC f x.a) (kC f x.b)then f 0+x.skip else f 0)+1)
 else if x.op=7 then P f 0 (f 0+1)else f
def oB(x:Ins):Bool:=x.op==3||(x.op==8||x.op==7)
def sJ(x:Ins)(f:Nat->UInt8)(v:UInt8):Nat->UInt8:=P (P f (1+x.dst.toNat) v) 0 (f 0+1)
def qj(M:Ms)(t:Nat)(f:Nat->UInt8):Ms:={M with C:=P M.C t f}
def qY(M:Ms)(t:Nat)(x:Ins):Ms:={qj M t (sJ x (M.C t) (M.mem x.loc.toNat))with mem:=P M.mem x.loc.toNat (uk x (M.mem x.loc.toNat) (kC (M.C t) x.a) (kC (M.C t) x.b))}
def iX(M:Ms)(t:Nat)(x:Ins):Ms:=
 if x.op=1 then qj M t (sJ x (M.C t) (pZ M t x.loc))
 else if x.op=2 then{qj M t (P (M.C t) 0 (M.C t 0+1))with I:=P M.I t (oZ (M.I t) (x.loc,kC (M.C t) x.a))}
 else if oB x then qj M t (l9 x (M.C t))else qY M t x
def vB(M:Ms)(t:Nat)(l:UInt8):Ms:={M with I:=P M.I t (tB (M.I t) l),mem:=P M.mem l.toNat (yP (M.I t) l)}
structure Ps where
 t:UInt8
 d:Bool
 l:UInt8
deriving DecidableEq
def nU(p:a8)(M:Ms)(t:Nat):Option Ins:=(p.h.getD t [])[(M.C t 0).toNat]?
def fZ(p:a8)(M:Ms)(x:Ps):Ms:=if x.d then vB M x.t.toNat x.l else match nU p M x.t.toNat with
 |some i=>iX M x.t.toNat i
 |none=>M
def mX(p:a8)(M:Ms)(t:Nat):Bool:=match nU p M t with
 |none=>false
 |some i=>if i.op=4\/i.op=5\/i.op=6\/i.op=7/\(i.mode=3\/i.mode=5)then(M.I t).isEmpty else true
def kA:Bf->List UInt8
 |[]=>[]
 |[e]=>[e.1]
 |e::a::b=>if e.1=a.1 then kA (a::b)else e.1::kA (a::b)
def xL(p:a8)(M:Ms)(t:Nat):List Ps:=(if mX p M t then [⟨UInt8.ofNat t,false,0⟩]else [])++(kA (M.I t)).map fun l=>⟨UInt8.ofNat t,true,l⟩
def rc(p:a8)(M:Ms)(k:Nat):List Ps:=(List.range k).flatMap (xL p M)
def di(p:a8)(M:Ms):List Ps:=rc p M p.h.length
structure Em(N after:Nat)(x:Ins):Prop where
 ok:ol x
 loc:x.op=1\/x.op=2\/x.op=4\/x.op=5\/x.op=6->x.loc.toNat<N
 m1:x.op=1->x.mode≠3
 m2:x.op=2->x.mode≠3
 f3:x.op=3->x.fn=1\/x.fn=2\/x.fn=3
 f8:x.op=8->(x.fn=4\/x.fn=5\/x.fn=6)/\x.skip.toNat<=after
structure cO(p:a8):Prop where
 pg:1<=p.N
 iG:p.N<=6
 init:p.init.length=p.N
 Rh:1<=p.h.length
 iE:p.h.length<=4
 len:∀ins∈p.h,ins.length<=12
 ins:∀ins∈p.h,∀i x,ins[i]? =some x->Em p.N (ins.length-1-i) x
structure dW(p:a8)(M:Ms):Prop where
 off:∀t,p.h.length<=t->(∀j,M.C t j=0)/\M.I t=[]
 pc:∀t ins,p.h[t]? =some ins->(M.C t 0).toNat<=ins.length
 mem:∀l,p.N<=l->M.mem l=0
 len:∀t,(M.I t).length<=(M.C t 0).toNat
 wT:∀t,(M.I t).Pairwise fun a b=>a.1<=b.1
 loc:∀t,∀e∈M.I t,e.1.toNat<p.N
def iO(p:a8):Ms:=⟨fun _ _=>0,fun l=>p.init.getD l 0,fun _=>[]⟩
section
def om:List UInt8:=[0,35,38,29,7,7,15,32,92]
def fX(x:Ins)(f:UInt8):Bool:=!(om.getD x.op.toNat 0&&&f==0)
def sB(x:Ins):Ins:=⟨x.op,if fX x 1 then x.dst else 0,if fX x 2 then x.loc else 0,if fX x 4 then x.a else⟨false,0⟩,if fX x 8 then x.b else⟨false,0⟩,if fX x 16 then x.fn else 0,if fX x 32 then x.mode else 0,if fX x 64 then x.skip else 0⟩
def oJ(a:Arg):Bool:=!a.cY||decide (a.n<8)
def vP(x:Ins):Bool:=if x.op=1 then x.mode==0||x.mode==1 else if x.op=2 then x.mode==0||x.mode==2 else if x.op=7 then x.mode==3||x.mode==4||x.mode==5 else true
def uQ(x:Ins):Bool:=if x.op=3 then x.fn==1||x.fn==2||x.fn==3 else if x.op=8 then x.fn==4||x.fn==5||x.fn==6 else true
instance (x y:Arg):Decidable (x=y):=decidable_of_iff (x.cY=y.cY/\x.n=y.n) ⟨fun h=>by cases x;cases y;cases h.1;cases h.2;rfl,fun h=>by cases h;exact⟨rfl,rfl⟩⟩
instance (x y:Ins):Decidable (x=y):=decidable_of_iff (x.op=y.op/\x.dst=y.dst/\x.loc=y.loc/\x.a=y.a/\x.b=y.b/\x.fn=y.fn/\x.mode=y.mode/\x.skip=y.skip) ⟨fun h=>by cases x;cases y;simp_all,fun h=>by cases h;exact⟨rfl,rfl,rfl,rfl,rfl,rfl,rfl,rfl⟩⟩
def xj(x:Ins)(N after:Nat):List Bool:=
 [decide (1<=x.op)&&decide (x.op<=8),decide (x=sB x),decide (x.dst<8),!fX x 2||decide (x.loc.toNat<N),oJ x.a&&oJ x.b,vP x,uQ x,!fX x 64||(decide (1<=x.skip)&&decide (x.skip.toNat<=after))]
def px(x:Ins)(N after:Nat):Bool:=(xj x N after).all id
def uf(ins:List Ins)(N k:Nat):Bool:=(List.range k).all fun i=>px (ins.getD i ⟨0,0,0,⟨false,0⟩,⟨false,0⟩,0,0,0⟩) N (ins.length-1-i)
def iv(ins:List Ins)(N:Nat):Bool:=decide (ins.length<=12)&&uf ins N ins.length
section
variable{x:Ins}{N after:Nat}
def NY:px x N after=true↔(1<=x.op/\x.op<=8)/\x=sB x/\x.dst<8/\(fX x 2=true->x.loc<N)/\(oJ x.a=true/\oJ x.b=true)/\vP x=true/\uQ x=true/\(fX x 64=true->1<=x.skip/\x.skip<=after):=by
 unfold px xj;simp only[J9,KN,id,cH,AQ,lD,jW,x8,<-Bool.not_eq_true];constructor
 .rintro⟨a,b,c,d,e,f,g,h⟩;exact⟨a,b,c,fun i=>d.resolve_left (by simp[i]),e,f,g,fun i=>h.resolve_left (by simp[i])⟩
 rintro⟨a,b,c,d,e,f,g,h⟩;refine⟨a,b,c,?_,e,f,g,?_⟩
 .cases i:fX x 2
  .exact .inl (by simp)
  exact .inr (d i)
 cases i:fX x 64
 .exact .inl (by simp)
 exact .inr (h i)
def ZO{locs'}(h:px x N after=true)(a:N<=locs'):px x locs' after=true:=by
 rw[NY]at h⊢
 grind
def Zi(h:x.op=1\/x.op=2\/x.op=4\/x.op=5\/x.op=6):fX x 2=true:=by
 unfold fX;obtain e|e|e|e|e:=h<;>rw[e]<;>decide
def aeS(h:px x N after=true):Em N after x:=by
 have⟨⟨j,l⟩,_,m,n,⟨o,p⟩,c,f,q⟩:=NY.1 h;have i:∀a,oJ a=true->a.cY=true->a.n<8:=fun a g r=>by
  unfold oJ at g;rw[r]at g;have:a.n<8:=by simpa using g
  exact this
 refine⟨⟨m,i _ o,i _ p,j,l⟩,fun b=>n (Zi b),fun b e=>?_,fun b e=>?_,fun b=>?_,fun b=>?_⟩
 .unfold vP at c;rw[aq b,e]at c;exact absurd c (dr rfl)
 .unfold vP at c;rw[O (by rw[b];decide),aq b,e]at c;exact absurd c (dr rfl)
 .unfold uQ at f;rw[aq b]at f;simpa[or_assoc]using f
 refine⟨?_,(q (by unfold fX;rw[b];decide)).2⟩;unfold uQ at f;rw[O (by rw[b];decide),aq b]at f;simpa[or_assoc]using f
def F6{ins:List Ins}{k:Nat}(b:k<=ins):uf ins N k=true↔∀i x,i<k->ins[i]? =some x->px x N (ins.length-1-i)=true:=by
 unfold uf;rw[mw];constructor
 .intro h i x a c;have:=h i (fS.2 a)
  grind
 grind
def Xy{ins}{k}{x:Ins}(a:ins[k]? =x):uf ins N (k+1)=(uf ins N k&&px x N (ins-1-k)):=by
 unfold uf;rw[jh,Cn]
 grind
def aex{ins}{locs'}(h:iv ins N=true)(a:N<=locs'):iv ins locs'=true:=by
 unfold iv at h⊢;rw[cH]at h⊢;exact⟨h.1,(F6 (av _)).2 fun i x b c=>ZO ((F6 (av _)).1 h.2 i x b c) a⟩
end
structure Gs(p:a8):Prop where
 pg:1<=p.N
 iG:p.N<=6
 init:p.init.length=p.N
 Rh:1<=p.h.length
 iE:p.h.length<=4
 C:∀ins∈p.h,iv ins p.N=true
def Gs.v{p}(h:Gs p):cO p:=by
 have f:∀ins∈p.h,ins.length<=12/\uf ins p.N ins=true:=fun ins hi=>by
  have:=h.C ins hi;unfold iv at this
  grind
 refine⟨h.pg,h.iG,h.init,h.Rh,h.iE,fun ins hi=>(f ins hi).1,fun ins hi i x g=>?_⟩;exact aeS ((F6 (av _)).1 (f ins hi).2 i x (bL.1 g).1 g)
end
def ago(f)(w):(Instr.build 58 #[(1,.agg (J 6 f))]).run prog w= .ok (J 38 fun i=>if i<32 then .int .u8 0 else f (i-32)) w:=by kernel_rfl
def adI(f)(x)(ev)(o)(w)(a:o.op= .build 58 #[(1,x)])(h:ev x= .agg (J 6 f)):(execOp ev o).run prog w= .ok (.value (J 38 fun i=>if i<32 then .int .u8 0 else f (i-32))) w:=by
 have:=ago f w;unfold execOp;simp_all
def QW(s)(k:Nat)(a:k<4)(w):(Instr.index 73 (J 36 (X s)) (.int .i64 k)).run prog w= .ok (J 9 fun i=>X s (9*k+i)) w:=by
 obtain _|_|_|_|k:=k
 all_goals first|(exfalso;omega)|kernel_rfl
def Ml:prog.underlying 73=some (.array 4 72):=by kernel_rfl
def J7:(prog.info? 73).map (·.size)=some 36:=by kernel_rfl
def qy:prog.underlying 72=some (.struct (prog.fieldsOf 72)):=by kernel_rfl
def iT:(prog.info? 72).map (·.size)=some 9:=by kernel_rfl
def vO:prog.underlying 54=some (.array 8 5):=by kernel_rfl
def ud:(prog.info? 54).map (·.size)=some 8:=by kernel_rfl
section
attribute [local irreducible] Code.wp wpList Oper.wp wpQuiet
def fG(s:St)(k i:Nat):Value:= .int .u8 (Y (if i<32 then(if i/8<k then Aa s (i/8) (i%8)else 0)else zq s (i-32)))
def aco(s):(J 38 fun i=>if i<32 then Value.int .u8 0 else X s (36+(i-32)))=J 38 (fG s 0):=gP fun i a=>by
 unfold fG X zq;by_cases h:i<32
 .rw[aq h,aq h,O (by omega)];rfl
 grind
def afK(s):J 38 (fG s 4)=(bQ (ku s)).toArray:=by
 rw[vQ];refine gP fun i a=>?_;rw[aeA s i a];unfold fG
 grind
def adR(s)(k i)(a:k<4):bm (fG s k) (k*8) 8 (fun j=>X s (9*k+(1+j))) i=fG s (k+1) i:=by
 unfold bm fG X Aa
 grind
def agO(s)(w):
 Calls prog 17 #[(J 142 (X s))] w (Rs (bQ (ku s)).toArray w):=by
 have I:=J5;have⟨m,c⟩:=eX (J 38 fun _=>Value.int .u8 0);rw[<-c]at I;have:¬m=#[]:=by intro h;have:=cg Array.size h;rw[c,dF]at this;simp at this
 have⟨n,f⟩:=eX (J 142 (X s));have:¬n=#[]:=by intro h;have:=cg Array.size h;rw[f,dF]at this;simp at this
 have⟨a,g⟩:=eX ((w.alloc (.cells n 80)).alloc (.cells m 58));have l:Below w w a:=by rw[g];exact(ba w _).alloc (by simp) _
 have p:aj a w 80 142 (X s):=by rw[g];exact(aj.dq w _ 142 _ n f).alloc _
 have q:aj a (w+1) 58 38 (fun _=> .int .u8 0):=by
  have:=aj.dq (w.alloc (.cells n 80)) 58 38 _ m c;simp_all
 rw[<-f];have b:=dC l p q c f g;clear l p q c f g;go_enter func17,ntmps17
 go_upto_region 1 with fail
 rw[<-b.F];have L:=aj.dq a 58 38 _ m b.d;have M:=H L
 go_upto_region 2 with(first|(refine nF rfl 56 (.tmp 6) rfl w 36 6 142 80 (X s) rfl b.b (dr rfl) _ BC rfl xx (h:=?_);simp only[o];refine BG rfl 58 #[(1,.tmp 7)] rfl (J 38 (fG s 0)) (by rw[<-aco];exact adI (fun i=>X s (36+i)) (.tmp 7) _ _ a rfl rfl) ?_;simp only[o];have⟨q,c⟩:=eX (J 6 fun i=>X s (36+i));have⟨r,g⟩:=eX (J 38 (fG s 0));rw[<-c,<-g];have f:=H g)|(refine eP rfl 58 (.tmp 3) (.tmp 8) rfl a 0 38 38 58 _ (fG s 0) rfl (cg Value.agg f.y) M.y (dr rfl) oD (fun i _=>rfl) ?_;intro t l p))
 have x:=fJ p;have N:=l.congr fun i t=>by unfold bm;rw[aq ⟨by omega,by omega⟩,ez]
 have p:=aD x N (b.b.Z x b.b.lt);have⟨GT,c⟩:=eX (J 36 (X s));have y:=H c;clear c
 go_wp2_with (refine nF rfl 73 (.tmp 9) rfl w 0 36 142 80 (X s) rfl p.C (dr rfl) _ Ml rfl J7 (h:=?_);simp only[Act.put,lX,mm,lP,cK];rw[show(J 36 fun i=>X s i)=GT from y.y.s])
 have:=H (b.a.t (p.a.m b.a.size))
 go_loopw [11] (fun i W=>∃k:Nat,k<=4/\i= .int .i64 k/\Below a a W/\aj W a 58 38 (fG s k)) (fun i _=>4-(intOf i).toNat)
 case atStart=>exact⟨0,aQ _,rfl,p.a,p.b⟩
 obtain⟨k,T,rfl,f,q⟩:=hrel;have⟨l,O⟩:=eX wr;subst O;by_cases z:k<4
 .have aa:(k:Int)<4:=by omega
  have⟨P,u⟩:=eX (J 9 fun i=>X s (9*k+i));have Q:∀W,(Instr.index 73 GT (.int .i64 k)).run prog W= .ok P W:=fun W=>by rw[y.y,u];exact QW s k z W
  have A:∀W,(zeroValue 72).run prog W= .ok (J 9 fun _=> .int .u8 0) W:=fun W=>by kernel_rfl
  have⟨v,r⟩:=eX (J 9 fun _=>Value.int .u8 0);rw[<-r]at A;have:¬v=#[]:=by intro h;have:=cg Array.size h;rw[r,dF]at this;simp at this
  have R:=f.size;have c:=aY f q (show aj (l.alloc (.cells v 72)) l 72 9 (fun _=> .int .u8 0)from aj.dq l _ 9 _ v r) u;clear f q u r
  go_upto_region 5 with(refine eP rfl 72 (.tmp 5) (.tmp 14) rfl l 0 9 9 72 _ (fun i=>X s (9*k+i)) rfl (cg Value.agg c.D) c.c (dr rfl) iT (fun i _=>rfl) ?_;intro r C E)
  have u:=fJ E;have F:=C.congr fun i t=>by unfold bm;rw[aq ⟨by omega,by omega⟩,ez]
  have r:=aD F (c.b.Z u c.b.lt) (c.a.t (u.m R));clear C E u F Q A;have⟨A,g⟩:=eX (J 8 fun j=>X s (9*k+(1+j)));have u:=H g;clear g
  go_wp2_with (first|(refine nF rfl 54 (.tmp 16) rfl l 1 8 9 72 (fun i=>X s (9*k+i)) rfl r.a (dr rfl) _ vO rfl ud (h:=?_);rw[show(J 8 fun i=>X s (9*k+(1+i)))=A from u.y.s])|(refine eP rfl 54 (.tmp 19) (.tmp 17) rfl a (k*8) 8 38 58 (fG s k) (fun j=>X s (9*k+(1+j))) rfl (cg Value.agg u.y) r.b (by omega) ud (fun i _=>rfl) ?_;intro E g C))
  exact⟨⟨k+1,by omega,by go_num,r.C.b C r.C.size (fun j e=>by grind),g.congr fun i t=>adR s k i z⟩,by simp[intOf];omega⟩
 obtain rfl:k=4:=by omega
 have c:=aD q (b.c.Z f b.c.lt) (b.a.t (f.m b.a.size));clear f q;have:¬((4:Nat):Int)<4:=by omega
 have⟨q,f⟩:=eX (J 38 (fG s 4));have g:=H f;clear f
 go_wp2_with (first|(refine nF rfl 58 (.tmp 3) rfl a 0 38 38 58 (fG s 4) rfl c.a (dr rfl) _ th rfl oD (h:=?_);simp only[Act.put,lX,mm,lP,cK];rw[show(J 38 fun i=>fG s 4 i)=q from g.y.s])|(refine eP rfl 58 (.tmp 2) (.tmp 21) rfl (w+1) 0 38 38 58 _ (fG s 4) rfl (cg Value.agg g.y) c.b (dr rfl) oD (fun i _=>rfl) ?_;intro w9 f C))
 have E:aj w9 (w+1) 58 38 (fG s 4):=f.congr fun i t=>by unfold bm;rw[aq ⟨by omega,by omega⟩,ez]
 refine bK (mT rfl _ E _ rfl th rfl oD) rfl ⟨by rw[<-afK],c.C.b C c.C.size (fun j e=>by grind)⟩
end
section
attribute [local go_sem] rj EM QS kf uq Ba
def ac5(fn a b:UInt8)(w)(h:fn=1\/fn=2\/fn=3):Calls prog 201 #[fn,a,b] w fun e c=>e=(Value.int .u8 (Y (nL fn a b)))/\c=w:=by
 obtain rfl|rfl|rfl:=h
 .rw[show Y 1=1 from rfl,show nL 1 a b=a+b from rfl];go_enter func201,ntmps201;go_wp2;go_ret;exact⟨rfl,rfl⟩
 .go_wp2;go_ret;exact⟨rfl,rfl⟩
 go_wp2;go_ret;exact⟨rfl,rfl⟩
def Zw(fn a b:UInt8)(w)(h:fn=4\/fn=5\/fn=6):Calls prog 202 #[fn,a,b] w fun e c=>e=(qE fn a b)/\c=w:=by
 obtain rfl|rfl|rfl:=h
 .rw[show Y 4=4 from rfl,show qE 4 a b=(a==b)from rfl];go_enter func202,ntmps202;go_wp2;go_ret;exact⟨rfl,rfl⟩
 .go_wp2;go_ret;exact⟨rfl,rfl⟩
 go_wp2;go_ret;exact⟨rfl,rfl⟩
end
def Dj(a)(rg)(w)(m:a.cY=true->a.n.toNat<8):Calls prog 144 #[.agg #[.bool a.cY,.int .u8 (Y a.n)],.agg (J 8 fun i=> .int .u8 (Y (rg i)))] w (Rs (.int .u8 (Y (LS a rg))) w):=by
 have⟨G,e⟩:=eX (J 8 fun i=>Value.int .u8 (Y (rg i)));have:¬G=#[]:=by intro h;have:=cg Array.size h;rw[e,dF]at this;simp at this
 have⟨f,b⟩:=eX ((w.alloc (.cells #[.bool a.cY,.int .u8 (Y a.n)] 34)).alloc (.cells G 54));have j:Below w.1.size w f:=by rw[b];exact(ba w _).alloc (by simp) _
 have l:aj f (w.1.size+1) 54 8 (fun i=> .int .u8 (Y (rg i))):=by
  have:=aj.dq (w.alloc (.cells #[.bool a.cY,.int .u8 (Y a.n)] 34)) 54 8 _ G e;rw[cT]at this;rw[b];exact this
 have g:aj f w.1.size 34 2 (fun i=>(#[.bool a.cY,.int .u8 (Y a.n)]:Array Value)[i]!):=by rw[b];exact(aj.dq w 34 2 _ _ (uR _)).alloc _
 have:=g.C 0 (dr rfl);have:=g.C 1 (dr rfl);rw[<-e];have c:=aD j l b;clear j l b g e;obtain⟨e,b⟩:=a;dsimp only at*
 cases e with
 |false=>
  go_enter func144,ntmps144
  go_upto_region 1 with fail
  rw[<-c.C];go_wp2;go_ret;exact⟨rfl,c.a⟩
 |true=>
  have g:=m rfl;have:¬(8:Int)<=Y b:=by unfold Y;omega
  have:Y b<8:=by unfold Y;omega
  have:=c.b.C _ g;have:(Y b).toNat=b:=by unfold Y;omega
  have:IntKind.i64.wrap (Y b)=Y b:=gw _ (by unfold Y at*;omega);have:(0:Int)<=Y b:=by unfold Y;omega
  have:¬Y b<0:=by omega
  go_enter func144,ntmps144
  go_upto_region 1 with fail
  rw[<-c.C];go_wp2;go_ret;exact⟨rfl,c.a⟩
section
def No(r)(x)(v):r.many<=(bw r x v).many:=by
 unfold bw eF;have⟨k,a⟩:=eX x.op.toNat;rw[<-a];obtain _|_|_|_|_|_|_|_|k:=k<;>simp only[yp,yj,wW,zP,xN,qk,xg,pj,nC,oN,iZ]<;>try split
 all_goals first|omega|(simp only[];omega)
def CB{x}(h:x.op=2\/x.op=3\/x.op=7\/x.op=8)(r)(v u):bw r x v=bw r x u:=by
 unfold bw eF;obtain h|h|h|h:=h<;>rw[h]<;>rfl
inductive jM(ins:List Ins)(R:aK):aK->Prop
 |refl (h:ins.length<=R.pc):jM ins R R
 |step {r:aK} {x:Ins} {v:UInt8} (hx:ins[r.pc]? =some x) (h:jM ins R (bw r x v)):jM ins R r
def jM.next{ins}{R r}(h:jM ins R r){x}(f:ins[r.pc]? =some x):∃v,jM ins R (bw r x v):=by
 cases h with
 |refl h=>have:=(bL.1 f).1;omega
 |@step _ y v g h=>obtain rfl:=aR (f.s.t g);exact⟨v,h⟩
def jM.fin{ins}{R r}(h:jM ins R r)(g:ins[r.pc]? =none):r=R:=by
 cases h with
 |refl h=>rfl
 |step f h=>rw[g]at f;cases f
def jM.bZ{ins}{R r}(h:jM ins R r):r.many<=R.many/\∀p,p<r.many->R.ev p=r.ev p:=by
 induction h with
 |refl h=>exact⟨av _,fun _ _=>rfl⟩
 |@step r x v o h f=>
  have:=No r x v;exact⟨by omega,fun p g=>(f.2 p (by omega)).t (C9 _ _ _ g)⟩
def g(n:Nat)(R:Nat->aK):Am:=⟨fun t=>if t<n then jQ (R t)else [],fun _=>[],fun _=>[],fun _=>none,fun _=>0,0⟩
def Am.Ac(A:Am)(a:Pt):Prop:=A.In a/\(A.kd a=1\/A.kd a=2)
structure se(code:Nat->List Ins)(n:Nat)(i:Nat->UInt8)(R:Nat->aK)(src:Pt->Option Pt)(k:Pt->Nat):Prop where
 cont:∀t,t<n->jM (code t) (R t) jL
 ops:∀t x,x∈code t->xH x/\1<=x.op.toNat/\x.op.toNat<=8
 inj:∀a b,(g n R).Ac a->(g n R).Ac b->k a=k b->a=b
 kp:∀t p q,p<q->(g n R).Ac (t,p)->(g n R).Ac (t,q)->(g n R).Kp (t,p) (t,q)->k (t,p)<k (t,q)
 val:∀r,(g n R).In r->(g n R).kd r=1->((g n R).ev r).val=(g n R).wv i ((g n R).lo r) (src r)
 sr:∀r s,(g n R).In r->(g n R).kd r=1->src r=some s->(g n R).In s/\(g n R).kd s=2/\(g n R).lo s=(g n R).lo r/\(s.1=r.1->s.2<r.2)/\(s.1≠r.1->k s<k r)
 fr:∀r b,(g n R).In r->(g n R).kd r=1->(g n R).In b->(g n R).kd b=2->(g n R).lo b=(g n R).lo r->(∀s,src r=some s->k s<k b)->k r<k b
 own:∀t p q,q<p->(g n R).In (t,p)->(g n R).kd (t,p)=1->(g n R).kd (t,q)=2->(g n R).lo (t,q)=(g n R).lo (t,p)->∃s,src (t,p)=some s/\k (t,q)<=k s
 at_:∀t p,(g n R).In (t,p+1)->(g n R).kd (t,p+1)=2->(g n R).md (t,p+1)=3->k (t,p+1)=k (t,p)+1
 acU:∀a,(g n R).In a->(g n R).kd a=3->(g n R).md a≠5
structure dv(code:Nat->List Ins)(n:Nat)(i:Nat->UInt8)(R:Nat->aK)(k:Pt->Nat)(K:Nat)(M:Mc):Prop where
 ok:iB i M
 zero:∀t,n<=t->(M.run t).many=0
 cont:∀t,t<n->jM (code t) (R t) (M.run t)
 rd:∀a,M.a.In a->(g n R).kd a=1->k a<K
 ex:∀a,(g n R).Ac a->k a<K->M.a.In a
 co:∀a,M.a.In a->(g n R).kd a=2->(M.a.D a↔k a<K)
 jb:∀l,(M.a.co l).Pairwise fun a b=>k a<k b
section
variable{code:Nat->List Ins}{n:Nat}{i:Nat->UInt8}{R:Nat->aK}{src:Pt->Option Pt}{k:Pt->Nat}{K:Nat}{M M':Mc}
def rK{a}(h:a.1<n):(g n R).In a↔a.2<(R a.1).many:=by
 show a.2<(if a.1<n then jQ (R a.1)else []).length↔_;rw[aq h,DX]
def Eh{a}(h:(g n R).In a):a.1<n:=by
 have h:a.2<(if a.1<n then jQ (R a.1)else []).length:=h
 grind
def EW{a}(h:(g n R).In a):(g n R).ev a=(R a.1).ev a.2:=by
 have b:=Eh h;have:=(rK b).1 h;unfold Am.ev g;simp only[aq b];exact Og _ this
def iB.cz(h:iB i M){a}:M.a.In a↔a.2<(M.run a.1).many:=by unfold Am.In;rw[h.es,DX]
def iB.ev(h:iB i M){a}(f:M.a.In a):M.a.ev a=(M.run a.1).ev a.2:=by unfold Am.ev;rw[h.es];exact Og _ (h.cz.1 f)
def iB.len(h:iB i M)(t):(M.a.es t).length=(M.run t).many:=by rw[h.es,DX]
def dv.same(h:dv code n i R k K M){a}(f:M.a.In a):(g n R).In a/\(g n R).ev a=M.a.ev a:=by
 have o:=h.ok.cz.1 f;by_cases r:a.1<n
 .have⟨w,u⟩:=(h.cont a.1 r).bZ;have hi:(g n R).In a:=(rK r).2 (by omega);exact⟨hi,by rw[EW hi,h.ok.ev f,u _ o]⟩
 rw[h.zero a.1 (by omega)]at o;omega
def dv.kd(h:dv code n i R k K M){a}(f:M.a.In a):M.a.kd a=(g n R).kd a:=by unfold Am.kd;rw[(h.same f).2]
def dv.lo(h:dv code n i R k K M){a}(f:M.a.In a):M.a.lo a=(g n R).lo a:=by unfold Am.lo;rw[(h.same f).2]
def dv.md(h:dv code n i R k K M){a}(f:M.a.In a):M.a.md a=(g n R).md a:=by unfold Am.md;rw[(h.same f).2]
def dv.b(h:dv code n i R k K M){a}:M.a.B a↔M.a.In a/\(g n R).kd a=2/\K<=k a:=by
 constructor
 .intro o;have⟨f,r,_⟩:=h.ok.inv.bin a o;have u:=(h.kd f).s.t r;refine⟨f,u,?_⟩;apply ki;intro y;have w:=(h.co a f u).2 (by omega);exact(h.ok.inv.cin _ _ w).2.2.2.1 o
 rintro⟨f,r,u⟩;obtain o|w:=h.ok.inv.wall a f ((h.kd f).t r)
 .exact o
 have:=(h.co a f r).1 w;omega
def dv.go(h:dv code n i R k K M){K'}(u:K<=K')(ok:iB i M')(zero:∀t,n<=t->(M'.run t).many=0)(cont:∀t,t<n->jM (code t) (R t) (M'.run t))(r:∀a,M.a.In a->M'.a.In a)
 (rd:∀a,M'.a.In a->¬M.a.In a->(g n R).kd a=1->k a<K')(ex:∀a,(g n R).Ac a->K<=k a->k a<K'->M'.a.In a)
 (co:∀a,M'.a.In a->(g n R).kd a=2->(M'.a.D a↔M.a.D a\/K<=k a/\k a<K'))(jb:∀l,(M'.a.co l).Pairwise fun a b=>k a<k b):dv code n i R k K' M':=by
 refine⟨ok,zero,cont,fun a o f=>?_,fun a o f=>?_,fun a o f=>?_,jb⟩
 .by_cases hi:M.a.In a
  .exact aW (h.rd a hi f) u
  exact rd a o hi f
 .by_cases hi:k a<K
  .exact r a (h.ex a o hi)
  exact ex a o (by omega) f
 rw[co a o f];by_cases hi:M.a.In a
 .rw[h.co a hi f];omega
 have w:¬M.a.D a:=fun y=>hi (h.ok.inv.cin _ _ y).1;have C:¬k a<K:=fun A=>hi (h.ex a ⟨by
  have:=ok.cz.1 o;by_cases r:a.1<n
  .exact(rK r).2 (aW this (cont a.1 r).bZ.1)
  .rw[zero a.1 (by omega)]at this;omega,.inr f⟩ A)
 constructor
 .rintro(r|r)
  .exact absurd r w
  exact r.2
 intro r;exact .inr ⟨by omega,r⟩
def dv.fD(o:se code n i R src k)(h:dv code n i R k K M){t}(r:(g n R).In (t,(M.run t).many))(w:(g n R).kd (t,(M.run t).many)=1)(ah:k (t,(M.run t).many)=K):
 M.a.fD t ((g n R).lo (t,(M.run t).many))=src (t,(M.run t).many):=by
 have⟨p,ae⟩:=eX (M.run t).many;rw[<-ae]at r w ah⊢;have O:∀q,M.a.In (t,q)↔q<p:=fun q=>by rw[h.ok.cz,ae]
 unfold Am.fD;cases P:(M.a.gE t ((g n R).lo (t,p))).getLast? with
 |some q=>
  have⟨ai,Q⟩:=Am.l7.1 (rT P);have⟨T,W,ak⟩:=h.b.1 (show M.a.B (t,q)from ai);rw[h.lo T]at Q;have⟨s,e1,e2⟩:=o.own t p q ((O q).1 T) r w W Q;have⟨X,y,E,F,aj⟩:=o.sr _ s r w e1;obtain⟨u,A⟩:=s;by_cases aa:u=t
  .subst aa;have F:=F rfl;have hi:=(O A).2 F;have L:=h.b.2 ⟨hi,y,by omega⟩;obtain rfl|af:=Ah (h.ok.inv.GV _) P A (Am.l7.2 ⟨L,by rw[h.lo hi];exact E⟩)
   .grind
   have:=o.kp u A q af ⟨X,.inr y⟩ ⟨(h.same T).1,.inr W⟩ (.inr (.inr (.inr (.inr ⟨W,.inl (E.t Q.s)⟩))));omega
  omega
 |none=>
  have:=Eu.1 P;show(M.a.co _).getLast?=_;have ag:∀b,b∈M.a.co ((g n R).lo (t,p))->(g n R).In b/\(g n R).kd b=2/\(g n R).lo b=(g n R).lo (t,p)/\k b<K:=by
   intro b L;have⟨f,H,C,_⟩:=h.ok.inv.cin _ b L;have N:=(h.kd f).s.t H;exact⟨(h.same f).1,N,(h.lo f).s.t C,(h.co b f N).1 (by unfold Am.D;rw[C];exact L)⟩
  cases e:src (t,p)with
  |none=>
   cases I:(M.a.co ((g n R).lo (t,p))).getLast? with
   |none=>rfl
   |some b=>
    have⟨f,H,C,N⟩:=ag b (rT I);have:=o.fr _ b r w f H C fun s ad=>by grind
    omega
  |some s=>
   have⟨X,y,E,F,aj⟩:=o.sr _ s r w e;have ad:k s<K:=by
    apply ki;intro al;obtain⟨u,A⟩:=s;by_cases aa:u=t
    .subst aa;have hi:=(O A).2 (F rfl);have:=Am.l7.2 (⟨(h.b.2 ⟨hi,y,by omega⟩),by rw[h.lo hi];exact E⟩:_/\M.a.lo (u,A)=(g n R).lo (u,p))
     grind
    omega
   have hi:=h.ex s ⟨X,.inr y⟩ ad;have J:=(h.co s hi y).2 ad;unfold Am.D at J;rw[h.lo hi,E]at J;cases I:(M.a.co ((g n R).lo (t,p))).getLast? with
   |none=>rw[Eu.1 I]at J;cases J
   |some b=>
    obtain rfl|af:=Ah (h.jb _) I s J
    .rfl
    have⟨f,H,C,N⟩:=ag b (rT I);have:=o.fr _ b r w f H C fun am an=>by grind
    omega
end
end
section
def BR(r)(x)(v):r.pc<(bw r x v).pc:=by
 have:r.pc<=(eF r x v).pc:=by
  unfold eF;have⟨k,a⟩:=eX x.op.toNat;rw[<-a];obtain _|_|_|_|_|_|_|_|k:=k<;>simp only[yp,yj,wW,zP,xN,qk,xg,pj,nC,oN,iZ]<;>try split
  all_goals first|omega|(simp only[];omega)
 exact Nat.lt_succ_of_le this
def iY{x:Ins}(a:1<=x.op.toNat)(b:x.op.toNat<=8):x.op=1\/x.op=2\/(x.op=4\/x.op=5\/x.op=6)\/x.op=7\/x.op=3\/x.op=8:=by
 have e:∀k,x.op.toNat=k.toNat->x.op=k:=fun k h=>tR.1 h;have:x.op.toNat=1\/x.op.toNat=2\/x.op.toNat=3\/x.op.toNat=4\/x.op.toNat=5\/x.op.toNat=6\/x.op.toNat=7\/x.op.toNat=8:=by omega
 obtain h|h|h|h|h|h|h|h:=this
 .exact .inl (e 1 h)
 .exact .inr (.inl (e 2 h))
 .exact .inr (.inr (.inr (.inr (.inl (e 3 h)))))
 .exact .inr (.inr (.inl (.inl (e 4 h))))
 .exact .inr (.inr (.inl (.inr (.inl (e 5 h)))))
 .exact .inr (.inr (.inl (.inr (.inr (e 6 h)))))
 .exact .inr (.inr (.inr (.inl (e 7 h))))
 exact .inr (.inr (.inr (.inr (.inr (e 8 h)))))
section
variable{code:Nat->List Ins}{n:Nat}{i:Nat->UInt8}{R:Nat->aK}{src:Pt->Option Pt}{k:Pt->Nat}{K:Nat}{M M':Mc}{t:Nat}{x:Ins}{a':Am}
def Yy(b:iB i M)(c:iB i (M.ex i t x a')){a}(h:M.a.In a):(M.ex i t x a').a.In a:=by
 rw[c.cz];have:=b.cz.1 h;show a.2<(P M.run t (M.next i t x) a.1).many;by_cases e:a.1=t
 .rw[e,bc];rw[e]at this;exact aW this (No _ _ _)
 rw[bf _ _ e];omega
def Pd(b:iB i M)(c:iB i (M.ex i t x a')){a}(h:(M.ex i t x a').a.In a)(f:¬M.a.In a):a.1=t/\(M.run t).many<=a.2/\a.2<(M.next i t x).many:=by
 rw[c.cz]at h;rw[b.cz]at f;have h:a.2<(P M.run t (M.next i t x) a.1).many:=h;by_cases e:a.1=t
 .rw[e,bc]at h
  grind
 rw[bf _ _ e]at h;omega
def wg(c:t<n){r}(h:jM (code t) (R t) r){p}(a:p<r.many):(g n R).In (t,p)/\(g n R).ev (t,p)=r.ev p:=by
 have⟨e,f⟩:=h.bZ;have b:(g n R).In (t,p):=(rK c).2 (aW a e);exact⟨b,by rw[EW b];exact f p a⟩
def dv.F1(h:dv code n i R k K M)(N:t<n){K'}(F:K<=K')(o:iB i (M.ex i t x a'))(H:jM (code t) (R t) (M.next i t x))
 (rd:∀p,(M.run t).many<=p->p<(M.next i t x).many->(g n R).kd (t,p)=1->k (t,p)<K')(ex:∀a,(g n R).Ac a->K<=k a->k a<K'->a.1=t/\a.2<(M.next i t x).many)
 (co:∀l a,a∈a'.co l↔a∈M.a.co l\/l=(g n R).lo a/\a.1=t/\a.2<(M.next i t x).many/\(g n R).kd a=2/\K<=k a/\k a<K')(f:∀a,(g n R).kd a=2->M.a.In a->K<=k a->¬k a<K')
 (jb:∀l,(a'.co l).Pairwise fun a b=>k a<k b):dv code n i R k K' (M.ex i t x a'):=by
 have E:∀u,u<n->jM (code u) (R u) ((M.ex i t x a').run u):=fun u A=>by
  show jM _ _ (P M.run t (M.next i t x) u);by_cases e:u=t
  .subst e;rw[bc];exact H
  rw[bf _ _ e];exact h.cont u A
 have I:∀u,n<=u->((M.ex i t x a').run u).many=0:=fun u A=>by
  show(P M.run t (M.next i t x) u).many=0;rw[bf _ _ (by omega)];exact h.zero u A
 have:∀a,a.1=t->a.2<(M.next i t x).many->(M.ex i t x a').a.In a:=fun a e r=>by
  rw[o.cz];show a.2<(P M.run t (M.next i t x) a.1).many;rw[e,bc];exact r
 have J:∀a,(M.ex i t x a').a.In a->(M.ex i t x a').a.lo a=(g n R).lo a:=fun a f=>by
  have w:=o.cz.1 f;by_cases y:a.1<n
  .obtain⟨u,p⟩:=a;unfold Am.lo;rw[o.ev f,(wg y (E u y) w).2]
  grind
 refine h.go F o I E (fun a=>Yy h.ok o) (fun a f y L=>?_) (fun a f w r=>?_) (fun a f L=>?_) jb
 .have⟨e,w,r⟩:=Pd h.ok o f y
  grind
 .grind
 have:(M.ex i t x a').a.D a↔a∈a'.co ((g n R).lo a):=by unfold Am.D;rw[J a f];exact nY
 by_cases hi:M.a.In a
 .have:M.a.D a↔a∈M.a.co ((g n R).lo a):=by unfold Am.D;rw[h.lo hi]
  grind
 have:¬M.a.D a:=fun C=>hi (h.ok.inv.cin _ _ C).1;have:¬a∈M.a.co ((g n R).lo a):=fun C=>hi (h.ok.inv.cin _ _ C).1;have⟨e,w,r⟩:=Pd h.ok o f hi
 grind
def dv.SK(h:dv code n i R k K M)(w:t<n)(E:∀t x,x∈code t->xH x)(o:Mv code n i M (M.ex i t x a'))(y:(code t)[(M.run t).pc]? =some x)(f:x.op=2\/x.op=3\/x.op=7\/x.op=8)(A:a'.co=M.a.co):dv code n i R k K (M.ex i t x a'):=by
 have⟨v,u⟩:=(h.cont t w).next y
 have u:jM (code t) (R t) (M.next i t x):=by rw[Mc.next,CB f _ _ v];exact u
 refine h.F1 w (av _) (o.ok E h.ok) u (fun p C y o=>?_) (fun a _ C y=>by omega) (fun l a=>?_) (fun a _ _ C=>by omega) (by rw[A];exact h.jb)
 .have o:((g n R).ev (t,p)).kind=1:=o;rw[(wg w u y).2]at o;have:p<(bw (M.run t) x (M.dM i t x)).many:=y;obtain f|f|f|f:=f
  .have⟨F,A⟩:=vV (r:=M.run t) (v:=M.dM i t x) f;obtain rfl:p=(M.run t).many:=by omega
   exact Am.ij o A.kind
  .have:=y5 (r:=M.run t) (v:=M.dM i t x) (.inl f);omega
  .have⟨F,A⟩:=xX (r:=M.run t) (v:=M.dM i t x) f;obtain rfl:p=(M.run t).many:=by omega
   exact Am.xa o A.kind
  have:=y5 (r:=M.run t) (v:=M.dM i t x) (.inr f);omega
 grind
def dv.Oe(L:se code n i R src k)(C:t<n){p:Nat}(ae:p<=(R t).many)(af:∀q,q<p->(g n R).kd (t,q)=1->k (t,q)<K)
 (ag:∀q f,q<f->f<p->(g n R).kd (t,f)=3->(g n R).md (t,f)=3->(g n R).kd (t,q)=2->k (t,q)<K):
 ∀(I:Nat)(M:Mc),dv code n i R k K M->(code t).length-(M.run t).pc<=I->(M.run t).many<=p->
  ∃M',nj code n i M M'/\dv code n i R k K M'/\(M'.run t).many=p/\(∀u,u≠t->M'.run u=M.run u)/\∀x,(code t)[(M'.run t).pc]? =some x->x.op≠3/\x.op≠8:=by
 intro I
 induction I with
 |zero=>
  intro M h ah H;have A:(code t)[(M.run t).pc]? =none:=od (by omega);have:=(h.cont t C).fin A;exact⟨M,.refl,h,by rw[this]at H⊢;omega,fun _ _=>rfl,fun x e=>by rw[A]at e;cases e⟩
 |succ I ai=>
  intro M h ah H;cases A:(code t)[(M.run t).pc]? with
  |none=>
   have:=(h.cont t C).fin A;exact⟨M,.refl,h,by rw[this]at H⊢;omega,fun _ _=>rfl,fun x e=>by rw[A]at e;cases e⟩
  |some x=>
   have:=(bL.1 A).1;have aj:∀t x,x∈code t->xH x:=fun t x h=>(L.ops t x h).1;have O:=cB A;have⟨v,ak⟩:=(h.cont t C).next A
   have go:∀a',Mv code n i M (M.ex i t x a')->(x.op=2\/x.op=3\/x.op=7\/x.op=8)->a'.co=M.a.co->(M.next i t x).many<=p->
    ∃M',nj code n i M M'/\dv code n i R k K M'/\(M'.run t).many=p/\(∀u,u≠t->M'.run u=M.run u)/\∀x,(code t)[(M'.run t).pc]? =some x->x.op≠3/\x.op≠8:=by
    intro a' P o al am;have an:=h.SK C aj P A o al;have e1:(M.ex i t x a').run t=M.next i t x:=bc _ _ _
    have:=BR (M.run t) x (M.dM i t x);have⟨M',F,w,g3,Q,ao⟩:=ai (M.ex i t x a') an (by rw[e1];show _-(bw (M.run t) x (M.dM i t x)).pc<=I;omega) (by rw[e1];exact am);exact⟨M',nj.t (.step .refl P) F,w,g3,fun u E=>(Q u E).t (bf _ _ E),ao⟩
   by_cases E:x.op=3\/x.op=8
   .refine go M.a (.quiet C A E) (E.elim (fun e=> .inr (.inl e)) fun e=> .inr (.inr (.inr e))) rfl ?_;rw[Mc.next,y5 E];exact H
   by_cases ap:(M.run t).many=p
   .exact⟨M,.refl,h,ap,fun _ _=>rfl,fun y e=>by obtain rfl:=aR (A.s.t e);exact⟨fun h=>E (.inl h),fun h=>E (.inr h)⟩⟩
   have N:(M.run t).many<p:=by omega
   have T:(g n R).In (t,(M.run t).many):=(rK C).2 (aW N ae);have W:(g n R).kd (t,(M.run t).many)=1->False:=fun X=>by
    have:=h.ok.cz.1 (h.ex _ ⟨T,.inl X⟩ (af _ N X));exact n9 _ this
   have ev:=fun(H:(M.run t).many<(bw (M.run t) x v).many)=>(wg C ak H).2;obtain o|o|o|o|o|o:=iY (L.ops t x O).2.1 (L.ops t x O).2.2
   .exfalso;have⟨F,w⟩:=Dc (r:=M.run t) (v:=v) o;exact W (by unfold Am.kd;rw[ev (by omega)];exact w.kind)
   .have⟨F,w⟩:=vV (r:=M.run t) (v:=M.dM i t x) o;exact go _ (.store C A o) (.inl o) rfl (by rw[Mc.next,F];omega)
   .exfalso;have⟨F,w⟩:=tC (r:=M.run t) (v:=v) o;refine W ?_;unfold Am.kd;rw[ev (by revert w;cases my (M.run t) x v with
     |none=>intro w;have w:(bw (M.run t) x v).many=(M.run t).many+1:=w;omega
     |some u=>intro w;have:=w.1;omega)]
    exact F.kind
   .have⟨F,w⟩:=xX (r:=M.run t) (v:=v) o;have⟨g3,Q⟩:=xX (r:=M.run t) (v:=M.dM i t x) o;have aa:(g n R).kd (t,(M.run t).many)=3:=by unfold Am.kd;rw[ev (by omega)];exact w.kind
    have ad:(g n R).md (t,(M.run t).many)=x.mode:=by unfold Am.md;rw[ev (by omega)];exact w.mode
    refine go _ (.Cb C A o fun J=>?_) (.inr (.inr (.inl o))) rfl (by rw[Mc.next,g3];omega);obtain J|J:=J
    .refine yB.2 fun q E=>?_;have⟨aq,ar,au⟩:=h.b.1 (show M.a.B (t,q)from E);have:=ag q _ (h.ok.cz.1 aq) N aa (ad.t J) ar;omega
    exact absurd (ad.t J) (L.acU _ T aa)
   .exact absurd (.inl o) E
   exact absurd (.inr o) E
end
end
def cJ(f:Nat->UInt8)(i:Nat):Value:= .int .u8 (Y (f i))
structure UB(x:Ins):Prop where
 mv:x.op=3->x.fn=1\/x.fn=2\/x.fn=3
 sk:x.op=8->x.fn=4\/x.fn=5\/x.fn=6
section
attribute [local irreducible] Code.wp wpList Oper.wp wpQuiet
attribute [local go_sem] AL AK BN Bk y7 zU BP zR zQ zC rj EM kf uq
def yY{ops}{C}{Q}{o}{rest}{a}(c:Region.wanted o (yielded ops a.tmps)=true)(ty)(x)(e:o.op= .load ty x)(b k)(f:a.eval x= .pointer (some ⟨b,k,none⟩))
 (L:List Value)(G)(p:G=L.toArray)(d:TypeDesc)(g:prog.underlying ty=d)(i:d.isRow=true)(j:(prog.info? ty).map (·.size)=L)(l:∀w,C w->w.rangeAt b k L)(h:wpQuiet prog ops C Q rest (a.put o.dst G)):wpQuiet prog ops C Q (o::rest) a:=
 Cd c fun K m=>⟨_,fun w n=>by
  unfold Oper.quietAt execOp;simp only[e,f,Instr.loadAt,Instr.sureAddr,eD,eZ,eY,qu w b k ty L d (l w n) g i j];exact⟨rfl,rfl⟩,m _ (by grind)⟩
def JH{w:World}{b o}{L}(h:w.rangeAt b o L)(c:b<w):∀a,(∃p:Regrown,a=Go.Sort.grow (redrawn w p.d) p.os)->a.rangeAt b o L:=by
 rintro a ⟨p,rfl⟩ j v e;exact((jO w p.d p.os).C (p:=⟨b,o+j,none⟩) c).t (h j v e)
def DB{W W':World}(h:Below W W W'):∀b a,b<↑W->W'.cell? ⟨b,a,none⟩=W.cell? ⟨b,a,none⟩:=fun b a c=>h.C (p:=⟨b,a,none⟩) c
def nP:(prog.info? 5).map (·.size)=some 1:=by kernel_rfl
def PZ(w:World)(LT:Nat->UInt8)(a:Bool)(W:World):Prop:=∃g,aj W (w.1.size+1) 72 9 (cJ g)/\aj W (w.1.size+2) 72 9 (fun _=> .int .u8 0)/\Below w w W/\LT=P g 0 (g 0+1)/\a=true
def MV(n)(g h):J n (bm g 0 n h)=J n h:=gP fun i a=>by unfold bm;rw[aq ⟨aQ _,by omega⟩,ez]
def qO:prog.underlying 34=some (.struct (prog.fieldsOf 34)):=by kernel_rfl
def rH:(prog.info? 34).map (·.size)=some 2:=by kernel_rfl
def Fh(w):(zeroValue 72).run prog w= .ok (J 9 fun _=> .int .u8 0) w:=by kernel_rfl
def OL(x:Ins)(f:Nat->UInt8)(w:World)(b:ol x)(A:UB x):
 Calls prog 147 #[(aV x),(J 9 (cJ f))] w (Rs (Value.tuple #[(J 9 (cJ (l9 x f))),(oB x)]) w):=by
 have ag:=Fh;have⟨C,m⟩:=eX (J 9 fun _=>Value.int .u8 0);rw[<-m]at ag;have:¬C=#[]:=by intro h;have:=cg Array.size h;rw[m,dF]at this;simp at this
 have⟨GT,c⟩:=eX (J 9 (cJ f));have:¬GT=#[]:=by intro h;have:=cg Array.size h;rw[c,dF]at this;simp at this
 have⟨y,a⟩:=eX (((w.alloc (.cells (aV x) 36)).alloc (.cells GT 72)).alloc (.cells C 72));have q:Below w w y:=by rw[a];exact((ba w _).alloc (by simp) _).alloc (by simp;omega) _
 have r:eO y w x:=by rw[a];exact((fF _ _ _ (by simp;omega)).t ((fF _ _ _ (by simp)).t (eO.new w x)))
 have s:aj y (w+1) 72 9 (cJ f):=by
  have:=(aj.dq (w.alloc (.cells (aV x) 36)) 72 9 _ GT c).alloc (.cells C 72);rw[cT]at this;rw[a];exact this
 have t:aj y (w+2) 72 9 (fun _=> .int .u8 0):=by
  have:=aj.dq ((w.alloc (.cells (aV x) 36)).alloc (.cells GT 72)) 72 9 _ C m;rw[cT,cT]at this;rw[a];exact this
 rw[<-c];have⟨LT,l⟩:=eX (l9 x f);have⟨I,p⟩:=eX (oB x);rw[<-l,<-p];unfold l9 at l;unfold oB at p;have n:=dC q r s t c a;clear q r s t m c a;have⟨X,m⟩:=eX (#[x.a.cY,x.a.n]:Array Value);have⟨aa,q⟩:=eX (#[x.b.cY,x.b.n]:Array Value);have⟨E,a⟩:=eX (J 8 fun i=>Value.int .u8 (Y (uZ f i)));have⟨r,c⟩:=eX (kC f x.a);have⟨s,t⟩:=eX (kC f x.b);have F:∀W,Calls prog 144 #[X,E] W (Rs (Value.int .u8 (Y r)) W):=fun W=>by
  rw[m,a,c];exact Dj x.a (uZ f) W b.a
 have Q:∀W,Calls prog 144 #[aa,E] W (Rs (Value.int .u8 (Y s)) W):=fun W=>by
  rw[q,a,t];exact Dj x.b (uZ f) W b.b
 rw[<-c,<-t]at l;have L:=aA l p;clear l p c t;have l:y.rangeAt w 3 [x.a.cY,x.a.n]:=by
  intro j v u;have:=n.b.C (3+j);obtain _|_|j:=j
  .rw[this];exact u
  .rw[this];exact u
  cases u
 have p:y.rangeAt w 5 [x.b.cY,x.b.n]:=by
  intro j v u;have:=n.b.C (5+j);obtain _|_|j:=j
  .rw[this];exact u
  .rw[this];exact u
  cases u
 have t:=n.c.range 1 8 (dr rfl);have c:=dC (JH l n.b.lt) (JH p n.b.lt) (JH t n.c.lt) m q (a);clear m q a l p t;go_enter func147,ntmps147
 go_upto_region 1 with fail
 rw[<-n.F];refine bV (by kernel_rfl) ?_
 repeat(first|(refine yY rfl 34 (.tmp 8) rfl w 3 rfl _ X c.d _ qO rfl rH c.a ?_;simp only[o])|(refine yY rfl 34 (.tmp 13) rfl w 5 rfl _ aa c.e _ qO rfl rH c.b ?_;simp only[o])|(refine yY rfl 54 (.tmp 10) rfl (w+1) 1 rfl _ E c.F _ vO rfl ud c.c ?_;simp only[o])|(refine yY rfl 54 (.tmp 15) rfl (w+1) 1 rfl _ E c.F _ vO rfl ud c.c ?_;simp only[o])|go_big_quiet_step (first|(go_at_call 144;first|with_reducible exact aX (F _)|with_reducible exact aX (Q _)))|quiet_step (fail))
 refine qn fun M l=>?_;have p:=n.b.Z l n.b.lt;have m:=n.c.Z l n.c.lt;have cs:=p.cells;have N:M.cell? (w+1:Nat)=some (f 0):=m.C 0 (dr rfl);have a:=aD m (n.d.Z l n.d.lt) (n.a.t (l.m n.a.size));clear l p m F Q;clear c;have Q:∀(g:Nat->UInt8)(k:Nat)(v:UInt8)(i:Nat),aU (cJ g) k v i=cJ (P g k v) i:=fun g k v i=>by unfold aU cJ P;split<;>rfl
 have ah:w.1.size<M:=by have:=a.a.lt;omega
 have ab:w.1.size+1<M.1.size:=a.a.lt;have ks:=H cs;have:=b.dst;have ai:¬(8:Int)<=Y x.dst:=by unfold Y;omega
 have ak:Y x.dst<8:=by unfold Y;omega
 have al:(Y x.dst).toNat=x.dst:=by unfold Y;omega
 have:IntKind.i64.wrap (Y x.dst)=Y x.dst:=gw _ (by unfold Y at*;omega);have am:(0:Int)<=Y x.dst:=by unfold Y;omega
 have an:¬Y x.dst<0:=by omega
 have ao:=H (iY b.qf b.iY);have ad:=H A;clear b A
 go_upto_block 0 with fail
 go_cut [] (fun b=>PZ w LT I b)
 case first=>
  have b:=L.a;have l:=L.B;obtain e|e|e|e|e|e:=ao.y
  case inr.inr.inr.inr.inl=>
   have e1:=oo (z:=3) rfl e;rw[aq e]at b;rw[e]at l;have q:=ad.y.mv e;have⟨R,p⟩:=eX (nL x.fn r s);rw[<-p]at b;have m:=aD b l (show∀W,Calls prog 201 #[x.fn,r,s] W fun e t=>e=(Value.int .u8 (Y R))/\Below W W t from fun W=>(ac5 x.fn r s W q).m fun e t h=>⟨by rw[p];exact h.1,by rw[h.2];exact aP _ _⟩);clear e b l q p
   go_upto_region 6 with fail
   refine Bl.j2 9 (by kernel_rfl) (by kernel_rfl) ?_;simp only[st1]
   repeat(first|(refine Bl.dK rfl (fun W p=>by have g:=DB p;simp[execOp,go_sem,g,ah,ab,ks.y,ai,ak,al,am,an];rfl) ?_;simp only[o])|(refine Bl.mZ 201 #[.int .u8 (Y x.fn),r,s] rfl (fun W=>by simp[execOp,go_sem]) (fun W p=>m.C W) ?_;simp only[o]))
   refine Bl.kr ?_;intro ar F;refine wpList_store_one rfl 5 (.tmp 35) (.tmp 33) rfl (w+1) (1+x.dst) 9 72 (cJ f) R rfl rfl (a.a.Z F ab) (by omega) nP rfl ?_;intro A q p;have ap:=H (show PZ w LT I A from⟨P f (1+x.dst) R,q.congr fun i _=>Q _ _ _ _,(a.b.Z F a.b.lt).K p (sn (by omega)),(a.C.t (F.m a.C.size)).b p (aO a.C.size F.size) (fun j e=>by cases e;omega),by rw[m.a,bf _ _ (show 0≠1+↑x.dst by omega)],m.b⟩);clear q p;go_wp2
   go_meet
   exact ap.y
  case inr.inr.inr.inr.inr=>
   have e1:=je (z:=3) rfl (show x.op≠3 by rw[e];decide);have e2:=oo (z:=8) rfl e;rw[O (show¬x.op=3 by rw[e];decide),aq e]at b;rw[e]at l;have⟨ae,T⟩:=eX (qE x.fn r s);rw[<-T]at b;have af:∀W,Calls prog 202 #[x.fn,r,s] W fun e t=>e=ae/\t=W:=fun W=>by rw[T];exact Zw x.fn r s W (ad.y.sk e)
   have m:=aD b l af;clear e b l T af;cases ae
   .go_wp2_with (go_at_call 202;refine(m.C _).m ?_;rintro e w9 ⟨rfl,rfl⟩)
    go_meet
    exact⟨f,a.a,a.b,a.C,by rw[m.a];simp,m.b⟩
   go_wp2_with (first|(go_at_call 202;refine(m.C _).m ?_;rintro e w9 ⟨rfl,rfl⟩)|(refine wpList_store_one rfl 5 (.tmp 48) (.tmp 47) rfl (w+1) 0 9 72 (cJ f) (f 0+x.skip) rfl rfl a.a (dr rfl) nP rfl ?_;intro A q p))
   go_meet
   exact⟨P f 0 (f 0+x.skip),q.congr fun i _=>Q _ _ _ _,a.b.K p (sn (by omega)),a.C.b p a.C.size (fun j e=>by cases e;omega),by rw[m.a];simp[bc,NT],m.b⟩
  case inr.inr.inr.inl=>
   have e1:=je (z:=3) rfl (show x.op≠3 by rw[e];decide);have e2:=je (z:=8) rfl (show x.op≠8 by rw[e];decide);have au:=oo (z:=7) rfl e;rw[O (show¬x.op=3 by rw[e];decide),O (show¬x.op=8 by rw[e];decide),aq e]at b;rw[e]at l;have m:=aA b l;clear e b l;go_wp2
   go_meet
   exact⟨f,a.a,a.b,a.C,m.a,m.B⟩
  all_goals
   have t:x.op≠3/\x.op≠8/\x.op≠7:=by
    first|(obtain e|e|e:=e<;>(rw[e];decide))|(rw[e];decide)
   have:=je (z:=3) rfl t.1;have:=je (z:=8) rfl t.2.1;have:=je (z:=7) rfl t.2.2;rw[O t.1,O t.2.1,O t.2.2]at b;have l:I=false:=by rw[l];simp[t]
   have m:=aA b l;clear e t b l N
   go_wp2_with (first|(refine nF rfl 72 (.tmp 3) rfl (w+1) 0 9 9 72 (cJ f) rfl a.a (dr rfl) _ qy rfl iT ?_;simp only[Act.put,lX,mm,lP,cK])|(refine eP rfl 72 (.tmp 4) (.tmp 20) rfl (w+2) 0 9 9 72 (fun _=> .int .u8 0) (cJ f) rfl rfl a.b (dr rfl) iT (fun i _=>rfl) ?_;intro A q p))
   refine bK (oT rfl _ q _ rfl qy rfl iT) rfl ?_;refine⟨?_,a.C.b p a.C.size (fun j e=>by cases e;omega)⟩;rw[<-L.B,m.a,m.B,MV];rfl
 obtain⟨g,t,T,af,b,l⟩:=hcut;have N:wc.cell? (w+1:Nat)=some (g 0):=t.C 0 (dr rfl);have wr:IntKind.u8.wrap (Y (g 0)+1)=Y (g 0+1):=rj (g 0) 1;have c:=bM t T af b l;clear t T af b l
 go_upto_region 12 with(refine wpList_store_one rfl 5 (.tmp 54) (.tmp 53) rfl (w+1) 0 9 72 (cJ g) (.int .u8 (Y (g 0+1))) rfl rfl c.a (dr rfl) nP rfl ?_;intro A q p)
 have l:aj A (↑w+1) 72 9 (cJ LT):=q.congr fun i _=>by rw[Q,c.d]
 have b:=aD l (c.b.K p (sn (by omega))) (c.c.b p c.c.size (fun j e=>by cases e;omega));clear l q p N wr
 go_wp2_with (first|(refine nF rfl 72 (.tmp 3) rfl (w+1) 0 9 9 72 (cJ LT) rfl b.a (dr rfl) _ qy rfl iT ?_;simp only[Act.put,lX,mm,lP,cK])|(refine eP rfl 72 (.tmp 4) (.tmp 55) rfl (w+2) 0 9 9 72 (fun _=> .int .u8 0) (cJ LT) rfl rfl b.b (dr rfl) iT (fun i _=>rfl) ?_;intro q l p))
 refine bK (oT rfl _ l _ rfl qy rfl iT) rfl ?_;refine⟨?_,b.C.b p b.C.size (fun j e=>by cases e;omega)⟩;rw[c.E,MV];rfl
end
def df(c:UInt8):Int:=
 if(97<=Y c/\Y c<=122)\/(65<=Y c/\Y c<=90)then 3 else if 48<=Y c/\Y c<=57 then 4 else if Y c=32\/Y c=9 then 1 else if Y c=10 then 2 else if Y c=95 then 5 else if Y c=35 then 7
 else if Y c=61\/Y c=43\/Y c=45\/Y c=94\/Y c=38\/Y c=124\/Y c=33\/Y c=40\/Y c=41\/Y c=58\/Y c=60 then 6 else 0
def oO(c:UInt8):Bool:=df c==3||(df c==4||df c==5)
def uX(P:UInt8->Bool)(s:ByteArray):Nat->Nat->Nat
 |0,k=>k
 |n+1,k=>if h:k<s.size then(if P s[k]then uX P s n (k+1)else k)else k
def gW(P:UInt8->Bool)(s:ByteArray)(k:Nat):Nat:=uX P s (s.size-k) k
def ET{P}{s}{k}(h)(a:P s[k]=true):gW P s k=gW P s (k+1):=by
 unfold gW;rw[show s.size-k=(s.size-(k+1))+1 by omega,uX,js h,aq a]
def we{P}{s}{k}(h:∀h:k<s.size,P s[k]=false):gW P s k=k:=by
 unfold gW;by_cases a:k<s.size
 .rw[show s.size-k=(s.size-(k+1))+1 by omega,uX,js a,O (by grind)]
 rw[show s.size-k=0 by omega,uX]
def MX(P)(s):∀n k,k<=uX P s n k/\(k<=s.size->uX P s n k<=s.size)
 |0,k=>⟨av _,id⟩
 |n+1,k=>by
  unfold uX;split
  .split
   .have:=MX P s n (k+1);omega
   omega
  omega
def E8(P)(s)(k)(h:k<=s.size):k<=gW P s k/\gW P s k<=s.size:=⟨(MX P s _ k).1,(MX P s _ k).2 h⟩
def dQ(s:ByteArray)(k:Nat):Nat:=let a:=gW (fun c=>df c==1) s k
 if h:a<s.size then(if df s[a]=7 then gW (fun c=>!(df c==2)) s a else a)else a
def D8(s)(k)(h:k<=s.size):k<=dQ s k/\dQ s k<=s.size:=by
 unfold dQ;have a:=E8 (fun c=>df c==1) s k h;simp only[];split
 .split
  .have:=E8 (fun c=>!(df c==2)) s _ a.2;omega
  omega
 omega
def oV(s:ByteArray)(k:Nat):Bool:=if h:k<s.size then df s[k]==2 else true
def xP(s:ByteArray)(k:Nat):Nat:=if h:k+1<s.size then(if(s[k].toNat=61\/s[k].toNat=33)/\s[k+1].toNat=61 then k+2 else k+1)else k+1
def ji(s:ByteArray)(k:Nat):Nat×Nat:=if h:k<s.size then(if df s[k]=3 then(1,gW oO s (k+1))else if df s[k]=4 then(2,gW (fun c=>df c==4) s (k+1))else(3,xP s k))else(3,k)
def Ow{s}{k}(h:k<s.size):k<(ji s k).2/\(ji s k).2<=s.size:=by
 unfold ji;rw[js h];split
 .have:=E8 oO s (k+1) h;omega
 split
 .have:=E8 (fun c=>df c==4) s (k+1) h;omega
 unfold xP
 grind
structure Tk where
 kind:Nat
 b:Nat
 e:Nat
def xV(s:ByteArray):Nat->Nat->Bool->Option (Tk×Nat×Bool)
 |0,_,_=>none
 |n+1,k,a=>if oV s (dQ s k)=false then some (⟨(ji s (dQ s k)).1,dQ s k,(ji s (dQ s k)).2⟩,(ji s (dQ s k)).2,true)
  else if a then some (⟨4,dQ s k,dQ s k⟩,min (dQ s k+1) s.size,false)
  else if s.size<=dQ s k then none else xV s n (dQ s k+1) false
def qt(s:ByteArray)(k:Nat)(a:Bool):Option (Tk×Nat×Bool):=xV s (s.size+1-k) k a
def qL(s:ByteArray):Nat->Nat->Bool->List Tk
 |0,_,_=>[]
 |n+1,k,a=>match qt s k a with
  |none=>[]
  |some (t,k',b)=>t::qL s n k' b
def pd(s:ByteArray):List Tk:=qL s (2*s.size+3) 0 false
def jf(s:ByteArray)(t:Tk):ByteArray:=if t.kind=4 then .empty else s.extract t.b t.e
def sY(x:ByteArray):Nat->Nat
 |0=>0
 |n+1=>10*sY x n+(if h:n<x.size then x[n].toNat-48 else 0)
def yq(x:ByteArray)(k:Nat):Bool:=(List.range k).all fun i=>if h:i<x.size then df x[i]==4 else true
def Dd(x:ByteArray):Bool:=if h:1<=x.size/\x.size<=3 then !(x[0].toNat==48&&decide (1<x.size))&&(yq x x.size&&decide (sY x x.size<=255))else false
def sh(a:Nat)(x:ByteArray):Int:=if a=1 then(if 16<x.size then 42 else 0)else if a=2 then(if Dd x then 0 else 41)else if a=3 then(if h:0<x.size then(if df x[0]=6 then 0 else 40)else 0)else 0
def pT(s:ByteArray):Bool:=decide (s.size<=16384)&&((pd s).all (fun t=>sh t.kind (jf s t)==0)&&match pd s with
 |[t,_]=>t.kind==1&&decide (jf s t=s)
 |_=>false)
def mF{k}{a b}(h:a=b):Ending.returned (.int k a)=(Value.int k b):=by rw[h]
def Mo(c:UInt8)(w:World):Calls prog 149 #[c] w fun e g=>e=(Value.int .i64 (df c))/\g=w:=by
 have⟨z,b⟩:=eX (Y c);have⟨C,a⟩:=eX (df c);rw[<-a];unfold df at a;rw[<-b]at a⊢;have:0<=z:=by rw[b];exact iW _
 have:z<256:=by rw[b];exact pC _
 have f:=H a;clear a b;go_enter func149,ntmps149
 go_wp2_with fail
 all_goals
  go_ret;have:=f.y;clear f;refine⟨mF ?_,rfl⟩
  try simp only[fg,qd,ne_eq]at*
  omega
section
attribute [local irreducible] Code.wp wpList Oper.wp wpQuiet
def oK(s:ByteArray)(k:Nat)(a:Bool)(i:Nat):Value:=if i=0 then .string s else if i=1 then .int .i64 k else .bool a
structure dS(w:World)(b:Nat)(s:ByteArray)(k:Nat)(o:Bool):Prop where
 c:aj w b 260 3 (oK s k o)
 k:k<=s.size
 s:s.size<=16384
def dS.Z{W W'}{b}{s}{k}{o}(h:dS W b s k o)(f:Below W W W'):dS W' b s k o:=⟨h.c.Z f h.c.lt,h.k,h.s⟩
def dS.c0{W}{b}{s}{k}{o}(h:dS W b s k o):W.cell? b=some (.string s):=h.c.C 0 (dr rfl)
def dS.c1{W}{b}{s}{k}{o}(h:dS W b s k o):W.cell? ⟨b,1,none⟩=some (.int .i64 k):=h.c.C 1 (dr rfl)
def dS.c2{W}{b}{s}{k}{o}(h:dS W b s k o):W.cell? ⟨b,2,none⟩=some (.bool o):=h.c.C 2 (dr rfl)
def M{a b:Bool}(h:a=b):Ending.returned a=b:=by rw[h]
def abc(c:UInt8)(w):Calls prog 151 #[c] w fun e b=>e=(oO c)/\b=w:=by
 have⟨R,a⟩:=eX (oO c);rw[<-a];unfold oO at a;go_enter func151,ntmps151
 go_wp2_with (go_at_call 149;refine((H (Mo c)).y _).m ?_;rintro e w9 ⟨rfl,rfl⟩)
 all_goals
  go_ret;refine⟨M ?_,rfl⟩;rw[(H a).y]
  first|rfl|simp[F0, *]
def Cu(c:UInt8)(w):Calls prog 149 #[.int .u8 (c:Int)] w (Rs (Value.int .i64 (df c)) w):=(Mo c w).m fun e a h=>⟨h.1,by rw[h.2];exact aP _ _⟩
def TL(b)(s)(k)(o)(w)(h:dS w b s k o):Calls prog 231 #[.pointer b] w (Rs (decide (s.size<=k)) w):=by
 have d0:=fun d a=>bO h.c0 d a;have d1:=fun d a=>bO h.c1 d a;go_enter func231,ntmps231
 go_upto_region 1 with fail
 refine bV (by kernel_rfl) ?_
 repeat(first|go_big_quiet_step (fail)|quiet_step (fail))
 refine qh fun W c=>?_;clear d0 d1;go_wp2;go_ret;exact⟨M (by simp),c.y⟩
def yX{b}{s}{k}{o}{w:World}(h:dS w b s k o):(∀d a,(Go.Sort.grow (redrawn w d) a).cell? b=some (.string s))/\(∀d a,(Go.Sort.grow (redrawn w d) a).cell? ⟨b,1,none⟩=some (.int .i64 k))/\
 ∀d a,Calls prog 231 #[.pointer b] (Go.Sort.grow (redrawn w d) a) fun e c=>e=(decide (s.size<=k))/\Below (Go.Sort.grow (redrawn w d) a) (Go.Sort.grow (redrawn w d) a) c:=
 ⟨fun d a=>bO h.c0 d a,fun d a=>bO h.c1 d a,fun d a=>TL b s k o (Go.Sort.grow (redrawn w d) a) (h.Z (jO w d a))⟩
def QD(b)(s)(k)(o)(w)(h:dS w b s k o):Calls prog 229 #[.pointer b] w (Rs (oV s k) w):=by
 have⟨d0,d1,c⟩:=yX h;have⟨R,a⟩:=eX (oV s k);rw[<-a];unfold oV at a;by_cases f:k<s.size
 .rw[js f]at a;rw[show decide (s.size<=k)=false by simpa using f]at c;have e:=aD a c (fun w=>Cu s[k] w);clear a c h;go_enter func229,ntmps229
  go_upto_region 1 with fail
  refine bV (by kernel_rfl) ?_
  repeat(first|go_big_quiet_step (first|(go_at_call 231;with_reducible exact aX (e.b _ _))|(go_at_call 149;with_reducible exact aX (e.C _)))|quiet_step (fail))
  refine qh fun W g=>?_;clear d0 d1;go_wp2;go_ret;exact⟨M e.a.s,g.y⟩
 rw[tL f]at a;rw[show decide (s.size<=k)=true by simpa using f]at c;have e:=aA a c;clear a c h;go_enter func229,ntmps229
 go_upto_region 1 with fail
 refine bV (by kernel_rfl) ?_
 repeat(first|go_big_quiet_step (first|(go_at_call 231;with_reducible exact aX (e.B _ _)))|quiet_step (fail))
 refine qn fun W a=>?_;go_wp2;go_ret;exact⟨M e.a.s,(H a).y⟩
def XB(s)(k k':Nat)(o)(i):aU (oK s k o) 1 (k':Int) i=oK s k' o i:=by unfold aU oK;split<;>split<;>simp_all
def Nd(s)(k)(b a:Bool)(i)(c:i<3):aU (oK s k b) 2 a i=oK s k a i:=by
 unfold aU oK
 grind
def Bt(w:World)(b:Nat):Nat:=match w.cell? ⟨b,1,none⟩with
 |some (.int _ n)=>n.toNat
 |_=>0
def xA{w}{b}{s}{k}{o}(h:dS w b s k o):Bt w b=k:=by unfold Bt;rw[h.c1];simp
def Hf(c:UInt8):Bool:=df c==1
def CZ(c:UInt8):Bool:=!(df c==2)
def R8(w:World)(r):w.grownBy w r:=⟨rfl,rfl,rfl,av _,fun _ _ _=>rfl⟩
def dS.put{W W'}{b}{s}{k k':Nat}{o}(h:dS W b s k o){z:Int}(f:aj W' b 260 3 (aU (oK s k o) 1 z))(g:z=(k':Int))(r:k'<=s.size):dS W' b s k' o:=⟨f.congr fun i _=>by rw[g];exact XB _ _ _ _ _,r,h.s⟩
def aat(b:Nat)(s:ByteArray)(k:Nat)(v:Bool)(w:World)(h:dS w b s k v):Calls prog 228 #[.pointer b] w fun e P=>e=(Value.tuple #[])/\dS P b s (dQ s k) v/\w.grownBy P (some b):=by
 have R:=H h;clear h;go_enter func228,ntmps228;go_wp2
 go_loopw [] (fun wr=>∃a,dS wr b s a v/\gW Hf s a=gW Hf s k/\w.grownBy wr (some b)) (fun wr=>s.size-Bt wr b)
 case atStart=>exact⟨k,R.y,rfl,R8 _ _⟩
 obtain⟨a,x,m,n⟩:=hrel;have⟨d0,d1,i⟩:=yX x;by_cases t:a<s.size
 .rw[show decide (s.size<=a)=false by simpa using t]at i;by_cases p:Hf s[a]=true
  .have j:=dC x m n i (fun w=>Cu s[a] w) p;have g:(df s[a]==1)=true:=p;clear x m n i p
   go_wp2_with fail
   refine bV (by kernel_rfl) ?_
   repeat(first|go_big_quiet_step (first|(go_at_call 231;with_reducible exact aX (j.d _ _))|(go_at_call 149;with_reducible exact aX (j.e _)))|quiet_step (fail))
   refine qn fun W q=>?_;have f:=j.a.Z q;have L:=f.c1;have M:=f.s;have l:=aA f (bg j.c (dD q (some b)));clear d0 d1 q f
   go_wp2_with (refine wpList_store_one rfl 3 (.tmp 24) (.tmp 22) rfl b 1 3 260 (oK s a v) (.int .i64 ((a:Int)+1)) rfl rfl l.a.c (dr rfl) uA rfl ?_;intro T C N;simp only[Act.put])
   have E:=l.a.put C (by omega) t;clear g L M C
   go_roundw
   case rel=>exact⟨a+1,E,by rw[<-ET t j.F];exact j.b,bg l.B N⟩
   rw[xA E,xA j.a];omega
  have F:(df s[a]==1)=false:=by simpa[Hf]using p
  have g:=m.s.t (we fun _=>by simpa using p);have z:dQ s k=if df s[a]=7 then gW (fun c=>!(df c==2)) s a else a:=by
   unfold dQ;rw[show gW (fun c=>df c==1) s k=a from g];simp only[js t]
  have j:=aY x n i (fun w=>Cu s[a] w);clear x m n i p g
  go_wp2_with fail
  refine bV (by kernel_rfl) ?_
  repeat(first|go_big_quiet_step (first|(go_at_call 231;with_reducible exact aX (j.c _ _))|(go_at_call 149;with_reducible exact aX (j.D _)))|quiet_step (fail))
  refine qn fun W q=>?_;have f:=j.a.Z q;have J:=bg j.b (dD q (some b));clear d0 d1 q;have⟨d0,d1,i⟩:=yX f;rw[show decide (s.size<=a)=false by simpa using t]at i;by_cases A:df s[a]=7
  .have g:∀w,Calls prog 149 #[.int .u8 (s[a].toNat:Int)] w (Rs (Value.int .i64 7) w):=fun w=>by have:=Cu s[a] w;rwa[A]at this
   rw[aq A]at z;have l:=bM f J i z g;clear f J i z A g
   go_wp2_with fail
   refine bV (by kernel_rfl) ?_
   repeat(first|go_big_quiet_step (first|(go_at_call 231;with_reducible exact aX (l.c _ _))|(go_at_call 149;with_reducible exact aX (l.E _)))|quiet_step (fail))
   refine qn fun W3 g=>?_;have y:=aA (l.a.Z g) (bg l.b (dD g (some b)));clear d0 d1 g
   go_wp2_with fail
   clear F
   go_loopw [] (fun wr=>∃o,dS wr b s o v/\gW CZ s o=gW CZ s a/\w.grownBy wr (some b)) (fun wr=>s.size-Bt wr b)
   case atStart=>exact⟨a,y.a,rfl,y.B⟩
   obtain⟨o,f,m,n⟩:=hrel;have r:=QD b s o v wr f;unfold oV at r;by_cases I:o<s.size
   .rw[js I]at r;by_cases p:(df s[o]==2)=true
    .rw[p]at r;have g:=aY f n r (m.s.t (we fun _=>by unfold CZ;rw[p];rfl));clear f n r m p
     go_wp2_with (go_at_call 229;refine g.c.st fun w9 u=>?_)
     go_end0
     exact⟨rfl,by rw[l.d,show gW (fun c=>!(df c==2)) s a=o from g.D];exact g.a.Z u,bg g.b (dD u _)⟩
    have F:(df s[o]==2)=false:=by simpa using p
    rw[F]at r;have Q:CZ s[o]=true:=by unfold CZ;rw[F];rfl
    have g:=bM f n r m Q;clear f n r m p F Q
    go_upto_region 4 with(go_at_call 229;refine g.c.st fun w9 u=>?_)
    have p:=g.a.Z u;have L:=p.c1;have M:=p.s;have F:=aA p (bg g.b (dD u (some b)));clear p u
    go_wp2_with (refine wpList_store_one rfl 3 (.tmp 49) (.tmp 47) rfl b 1 3 260 (oK s o v) (.int .i64 ((o:Int)+1)) rfl rfl F.a.c (dr rfl) uA rfl ?_;intro T C N;simp only[Act.put])
    have E:=F.a.put C (by omega) I;clear L M C
    go_roundw
    case rel=>exact⟨o+1,E,by rw[<-ET I g.E];exact g.d,bg F.B N⟩
    rw[xA E,xA g.a];omega
   rw[tL I]at r;have g:=aY f n r (m.s.t (we fun h=>absurd h I));clear f n r m
   go_wp2_with (go_at_call 229;refine g.c.st fun w9 u=>?_)
   go_end0
   exact⟨rfl,by rw[l.d,show gW (fun c=>!(df c==2)) s a=o from g.D];exact g.a.Z u,bg g.b (dD u _)⟩
  have:(df s[a] !=7)=true:=by simpa using A
  rw[O A]at z;have l:=aY f J i z;clear f J i z A
  go_wp2_with fail
  refine bV (by kernel_rfl) ?_
  repeat(first|go_big_quiet_step (first|(go_at_call 231;with_reducible exact aX (l.c _ _))|(go_at_call 149;with_reducible exact aX (j.D _)))|quiet_step (fail))
  refine qh fun W3 y=>?_;clear d0 d1;go_wp2;refine bK (ju rfl _ _ _) rfl ?_;exact⟨rfl,by rw[l.D];exact l.a.Z y.y,bg l.b (dD y.y _)⟩
 rw[show decide (s.size<=a)=true by simpa using t]at i;have o:dQ s k=a:=by
  unfold dQ;rw[show gW (fun c=>df c==1) s k=a from m.s.t (we fun h=>absurd h t)];simp only[tL t]
 have j:=aY x o n i;clear x m n i o
 go_wp2_with fail
 refine bV (by kernel_rfl) ?_
 repeat(first|go_big_quiet_step (first|(go_at_call 231;with_reducible exact aX (j.D _ _)))|quiet_step (fail))
 refine qn fun W q=>?_;have f:=j.a.Z q;have l:=aA f (bg j.c (dD q (some b)));clear d0 d1 q;have⟨d0,d1,i⟩:=yX f;rw[show decide (s.size<=a)=true by simpa using t]at i;have y:=H i;clear i f
 go_wp2_with fail
 refine bV (by kernel_rfl) ?_
 repeat(first|go_big_quiet_step (first|(go_at_call 231;with_reducible exact aX (y.y _ _)))|quiet_step (fail))
 refine qh fun W3 g=>?_;clear d0 d1;go_wp2;refine bK (ju rfl _ _ _) rfl ?_;exact⟨rfl,by rw[j.b];exact l.a.Z g.y,bg l.B (dD g.y _)⟩
end
def B9(c:UInt8)(w):Calls prog 149 #[.int .u8 (c:Int)] w fun e a=>e=(Value.int .i64 (df c))/\a=w:=Mo c w
def O7(c:UInt8)(w):Calls prog 151 #[.int .u8 (c:Int)] w fun e a=>e=(oO c)/\a=w:=abc c w
def WN(b)(s)(k)(o)(w)(h:dS w b s k o)(m:k<s.size):Calls prog 244 #[.pointer b] w (Rs (Value.int .i64 ((gW oO s (k+1):Nat):Int)) w):=by
 have:=h.c1;have:=h.s;go_enter func244,ntmps244;go_wp2
 go_loopw [3] (fun i wr=>∃a,a<=s.size/\i= .int .i64 ((a:Nat):Int)/\wr=w/\gW oO s a=gW oO s (k+1)) (fun i _=>s.size-(intOf i).toNat)
 case atStart=>exact⟨k+1,m,rfl,rfl,rfl⟩
 obtain⟨a,p,rfl,rfl,f⟩:=hrel;have:=(H h).y.c0;by_cases g:a<s.size
 .have⟨n,j⟩:=eX (oO s[a]);have l:=fun w=>O7 s[a] w;rw[<-j]at l;have c:=aD f l j;clear f l j;cases n
  .go_wp2_with (go_at_call 151;refine(c.b _).m ?_;rintro e w9 ⟨rfl,rfl⟩)
   go_ret;exact⟨by rw[<-c.a,we fun _=>c.C.s];rfl,aP _ _⟩
  go_wp2_with (go_at_call 151;refine(c.b _).m ?_;rintro e w9 ⟨rfl,rfl⟩)
  go_roundw
  case rel=>exact⟨a+1,g,by go_num,trivial,by rw[<-ET g c.C.s];exact c.a⟩
  simp[intOf];omega
 have c:=H (f.s.t (we fun h=>absurd h g));go_wp2;go_ret;exact⟨by rw[c.y];rfl,aP _ _⟩
def acr(b)(s)(k)(o)(w)(h:dS w b s k o)(p:k<s.size):Calls prog 245 #[.pointer b] w (Rs (Value.int .i64 ((gW (fun c=>df c==4) s (k+1):Nat):Int)) w):=by
 have:=h.c1;have:=h.s;go_enter func245,ntmps245;go_wp2
 go_loopw [3] (fun i wr=>∃a,a<=s.size/\i= .int .i64 ((a:Nat):Int)/\wr=w/\gW (fun c=>df c==4) s a=gW (fun c=>df c==4) s (k+1)) (fun i _=>s.size-(intOf i).toNat)
 case atStart=>exact⟨k+1,p,rfl,rfl,rfl⟩
 obtain⟨a,q,rfl,rfl,j⟩:=hrel;have:=(H h).y.c0;by_cases g:a<s.size
 .have⟨z,l⟩:=eX (df s[a]);have m:=fun w=>B9 s[a] w;rw[<-l]at m;have f:=aD j m l;by_cases n:z=4
  .subst n
   go_wp2_with (go_at_call 149;refine(f.b _).m ?_;rintro e w9 ⟨rfl,rfl⟩)
   go_roundw
   case rel=>exact⟨a+1,g,by go_num,trivial,by rw[<-ET g (by rw[<-f.C];rfl)];exact f.a⟩
   simp[intOf];omega
  have a:(z==4)=false:=by simpa using n
  go_wp2_with (go_at_call 149;refine(f.b _).m ?_;rintro e w9 ⟨rfl,rfl⟩)
  go_ret;exact⟨by rw[<-f.a,we fun _=>by rw[<-f.C];exact a];rfl,aP _ _⟩
 have f:=H (j.s.t (we fun h=>absurd h g));go_wp2;go_ret;exact⟨by rw[f.y];rfl,aP _ _⟩
def Y0(b:Nat)(s:ByteArray)(k:Nat)(i:Bool)(w:World)(h:dS w b s k i)(l:k<s.size):Calls prog 243 #[.pointer b] w (Rs (Value.int .i64 ((xP s k:Nat):Int)) w):=by
 have:=h.c1;have:=h.s;have⟨d0,d1,_⟩:=yX h;have j:=H h;go_enter func243,ntmps243
 go_upto_region 2 with fail
 refine bV (by kernel_rfl) ?_
 repeat(go_big_quiet_step (fail))
 refine qn fun W e=>?_;have:=(j.y.Z e).c0;have f:=H e;by_cases g:k+1<s.size
 .have a:((xP s k:Nat):Int)=if((s[k].toNat:Int)=61\/(s[k].toNat:Int)=33)/\(s[k+1].toNat:Int)=61 then(k:Int)+2 else k+1:=by
   unfold xP;rw[js g];split<;>split<;>omega
  have c:=H a
  go_wp2_with fail
  all_goals
   go_ret;refine⟨mF ?_,f.y⟩;have a:=c.y
   try simp only[fg,qd,ne_eq]at*
   split at a<;>omega
 have a:xP s k=k+1:=by unfold xP;rw[tL g]
 have c:=H a;clear a
 go_wp2_with fail
 all_goals
  go_ret;exact⟨by rw[c.y];rfl,f.y⟩
def eN(s:ByteArray)(t:Tk)(i:Nat):Value:=if i=0 then .int .u8 t.kind else if i=1 then .string (jf s t)else .int .i64 t.b
def Ko(s:ByteArray)(t:Tk):Value:= .agg #[.int .u8 t.kind,.string (jf s t),.int .i64 t.b]
section
attribute [local irreducible] Code.wp wpList Oper.wp wpQuiet
def EH(w):(zeroValue 180).run prog w= .ok (.agg #[.int .u8 0,.string .empty,.int .i64 0]) w:=by kernel_rfl
def pB:prog.underlying 180=some (.struct (prog.fieldsOf 180)):=by kernel_rfl
def jc:(prog.info? 180).map (·.size)=some 3:=by kernel_rfl
def qK(s)(t)(i):(eN s t i).oneCell'=true:=by
 unfold eN;split
 .rfl
 split<;>rfl
def D5{w e f:World}{r}{b}(a:w.grownBy e r)(c:e.grownBy f (some b))(i:w<=b):w.grownBy f r:=⟨c.os.t a.os,c.tape.t a.tape,c.output.t a.output,aO a.size c.size,fun k g h=>(c.block k (aW g a.size) (by grind)).t (a.block k g h)⟩
def aal(s)(t):Value.agg (J 3 (eN s t))=Ko s t:=rfl
structure aaf(fid:Nat)(s:ByteArray)(k:Nat)(e:Nat):Prop where
 Gf:∀args w,(callFunc fid args).run prog w= .ok (.enter fid args) w
 MU:∀b o w,dS w b s k o->Calls prog fid #[.pointer (b:Nat)] w fun x w'=>x= .returned (.int .i64 (e:Int))/\Below w.1.size w w'
def aft(b:Nat)(s:ByteArray)(k:Nat)(f:Bool)(w:World)(h:dS w b s k f)(p:k<s.size):Calls prog 230 #[.pointer b] w fun e v=>
 e= .returned (Ko s ⟨(ji s k).1,k,(ji s k).2⟩)/\dS v b s (ji s k).2 f/\w.grownBy v (some b):=by
 have⟨r,m⟩:=eX (w.alloc (.cells #[.int .u8 0,.string .empty,.int .i64 0] 180));have n:Below w w r:=by rw[m];exact ba w _
 have C:r.1.size=w+1:=by rw[m];simp
 have u:aj r w 180 3 (fun i=>(#[Value.int .u8 0,.string .empty,.int .i64 0])[i]!):=by rw[m];exact aj.dq w 180 3 _ _ rfl
 have q:=h.Z n;have:=EH;have:=h.c.lt;have⟨K,j⟩:=eX (ji s k).1;have⟨E,l⟩:=eX (ji s k).2;have⟨F,x⟩:=Ow p;rw[<-l]at F x;rw[<-j,<-l];unfold ji at j l;rw[js p]at j l;have⟨d0,d1,_⟩:=yX q;have⟨z,y⟩:=eX (df s[k]);have t:=Cu s[k];rw[<-y]at j l t;have A:jf s ⟨K,k,E⟩=s.extract k E:=by
  unfold jf;refine O ?_;show K≠4;rw[j];split
  .show(1:Nat)≠4;decide
  split
  .show(2:Nat)≠4;decide
  show(3:Nat)≠4;decide
 have c:=gQ q u n j l t m C A;clear h q u n j l t y m A;go_enter func230,ntmps230
 go_upto_region 2 with fail
 rw[<-c.g];refine bV (by kernel_rfl) ?_
 repeat(go_big_quiet_step (first|(go_at_call 149;with_reducible exact aX (c.f _))))
 refine qn fun W t=>?_;have j:=aD (c.a.Z t) (c.b.Z t c.b.lt) (c.c.t (t.m c.c.size))
 go_upto_block 0 with fail
 go_cut [3,4] (fun l m n=>n=W/\l= .int .u8 (K:Int)/\∃q,m= .func (.func q) #[] #[]/\aaf q s k E)
 case first=>
  by_cases l:z=3
  .have ab:(z==3)=true:=by simpa using l
   have m:=H (show K=1/\E=_ by have a:=c.d;have b:=c.e;rw[aq l]at a b;exact⟨a,b⟩);clear l;go_wp2
   go_meet
   exact⟨rfl,by rw[m.a];rfl,_,rfl,by rw[m.B];exact⟨gH func244 (by kernel_rfl) rfl,fun b f w h=>WN b s k f w h p⟩⟩
  have:(z==3)=false:=by simpa using l
  by_cases n:z=4
  .have ad:(z==4)=true:=by simpa using n
   have m:=H (show K=2/\E=_ by have a:=c.d;have b:=c.e;rw[O l,aq n]at a b;exact⟨a,b⟩);clear l n;go_wp2
   go_meet
   exact⟨rfl,by rw[m.a];rfl,_,rfl,by rw[m.B];exact⟨gH func245 (by kernel_rfl) rfl,fun b f w h=>acr b s k f w h p⟩⟩
  have:(z==4)=false:=by simpa using n
  have m:=H (show K=3/\E=_ by have a:=c.d;have b:=c.e;rw[O l,O n]at a b;exact⟨a,b⟩);clear l n;go_wp2
  go_meet
  exact⟨rfl,by rw[m.a];rfl,_,rfl,by rw[m.B];exact⟨gH func243 (by kernel_rfl) rfl,fun b f w h=>Y0 b s k f w h p⟩⟩
 obtain⟨rfl,rfl,q,rfl,ae,l⟩:=hcut;have I:=j.a.c1;have n:=l b f wc j.a;have L:=H n;clear n l
 go_upto_region 9 with(first|(go_at_fn q;refine L.y.st fun af n=>?_)|(refine wpList_store_one rfl 3 (.tmp 35) (.tmp 32) rfl b 1 3 260 (oK s k f) (E:Int) rfl rfl (j.a.Z n).c (dr rfl) uA rfl ?_;intro l y u;simp only[Act.put]))
 have A:=j.C.t (n.m j.C.size);have l:=(j.a.Z n).put y rfl x;have M:=l.c0;have N:=l.c1;have P:=l.c.lt;have:=l.s;have Q:¬(E:Int)<k:=by omega
 have R:¬(s.size:Int)<E:=by omega
 have T:¬(E:Int)<0:=by omega
 have X:(k:Int)<=E:=by omega
 have aa:(E:Int)<=s.size:=by omega
 have q:=aD l ((j.b.Z n j.b.lt).K u (sn (by omega))) (bg (dD A (some b)) u);clear l y u A n I;refine Bl.j2 15 (by kernel_rfl) (by kernel_rfl) ?_;simp only[st1]
 repeat(refine Bl.dK rfl (fun W l=>by have g:=DB l;simp[execOp,go_sem,g,P,M,N,Q,R,T,X,aa];rfl) ?_;simp only[o])
 refine Bl.kr ?_;intro I n;have y:Value.agg #[.int .u8 (K:Int),.string (s.extract k E),(k:Int)]= .agg (J 3 (eN s ⟨K,k,E⟩)):=by rw[aal,<-c.I];rfl
 refine eP rfl 180 (.tmp 2) (.tmp 50) rfl w 0 3 3 180 _ (eN s ⟨K,k,E⟩) rfl (by exact y) (q.b.Z n q.b.lt) (dr rfl) jc (fun i _=>qK _ _ _) ?_;intro ag A u;simp only[Act.put];have l:=aA (q.a.Z n) (q.C);go_wp2;refine bK (mT rfl _ A _ rfl pB rfl jc) rfl ?_;rw[MV];exact⟨rfl,⟨l.a.c.K u (sn (by omega)),l.a.k,l.a.s⟩,D5 (bg l.B (dD n _)) u (av _)⟩
end
section
section
variable(M:Ms)
def Qt{l}(f:l<6)(v:UInt8)(i)(g:i<142):aU (X (aB M)) (36+l) v i=X (aB {M with mem:=P M.mem l v}) i:=by
 have:∀i,i<142->aU (X (aB M)) (36+l) v i=X (aB {M with mem:=P M.mem l v}) i:=by
  refine BV (fun t j a b=>?_) (fun k c=>?_) (fun t j a b=>?_) (fun t a=>?_)
  .rw[Gm _ _ (by omega)];unfold X;rw[nA _ a b,nA _ a b]
  .unfold X;rw[ox _ c];show _=Value.int .u8 (Y (P M.mem l v k));by_cases e:k=l
   .subst e;rw[Y1,bc]
   rw[Gm _ _ (by omega),bf _ _ e,ox _ c]
  .rw[Gm _ _ (by omega)];unfold X;rw[mD _ a b,mD _ a b]
  rw[Gm _ _ (by omega)];unfold X;rw[oS _ a,oS _ a]
 grind
def SU{t}(a:t<4)(f)(i)(h:i<142):bm (X (aB M)) (9*t) 9 (cJ f) i=X (aB (qj M t f)) i:=by
 have:∀i,i<142->bm (X (aB M)) (9*t) 9 (cJ f) i=X (aB (qj M t f)) i:=by
  refine BV (fun u j c b=>?_) (fun k g=>?_) (fun t j a b=>?_) (fun t a=>?_)
  .unfold X;rw[nA _ c b];show _=Value.int .u8 (Y (P M.C t f u j));by_cases e:u=t
   .subst e;rw[bc,Hr _ _ _ _ b];rfl
   rw[kE _ _ _ _ (by omega),bf _ _ e,nA _ c b]
  .rw[kE _ _ _ _ (by omega)];unfold X;rw[ox _ g,ox _ g];rfl
  .rw[kE _ _ _ _ (by omega)];unfold X;rw[mD _ a b,mD _ a b];rfl
  rw[kE _ _ _ _ (by omega)];unfold X;rw[oS _ a,oS _ a];rfl
 grind
end
def sN(v:Value):Option (DataW Value×List MemPlace):=some (.held v,[])
def vu:DataW Value:=(((((DataW.map []).put (.int .u8 1) (.held (.func (.func 238) #[] #[]))).put (.int .u8 2) (.held (.func (.func 239) #[] #[]))).put (.int .u8 4) (.held (.func (.func 240) #[] #[]))).put (.int .u8 5) (.held (.func (.func 241) #[] #[]))).put (.int .u8 6) (.held (.func (.func 242) #[] #[]))
def Um:Maps.Keyed prog 5:=Maps.int_keyed (by kernel_rfl:prog.underlying 5=some (.int .u8))
def P8:prog.underlying 321=some (.map 5 299):=by kernel_rfl
def Ov(z)(h:(Lit.int .u8 z).wf=true):keyOf prog 5 (.int .u8 z)=some (.int .u8 z):=Maps.keyOf_int_mk (by kernel_rfl) h
def WK(w):Calls prog 227 #[] w fun e g=>∃b,e= .returned (.map (some b))/\g.ownsMap prog 5 sN b 5 vu/\Below w w g:=by
 have:∀W,(Instr.makeMap 321 none).run prog W= .ok (.map (some W)) (W.alloc (.map #[] 0)):=fun W=>run_makeMap _ _;have f:∀{W:World}{n:Nat}{D:DataW Value}(z:Int)(v:Value),W.ownsMap prog 5 sN w n D->(Lit.int .u8 z).wf=true->n<100->Below w w W->
  ∃W',(Instr.mapUpdate 321 (.map (some w)) (.int .u8 z) v).run prog W= .ok () W'/\W'.ownsMap prog 5 sN w (n+1) (D.put (.int .u8 z) (.held v))/\Below w w W':=fun{W n D} z v h l A i=>by
  have⟨W',a,b,c⟩:=h.update Um P8 (by unfold maxLen;omega) (Ov z l) (show sN v=some (.held v,[])from rfl);exact⟨W',a,b,i.b c i.size (fun j e=>by cases e;omega)⟩
 have⟨W1,C,m,o⟩:=f 1 (.func (.func 238) #[] #[]) (World.ownsMap_made w prog 5 sN) (dr rfl) (dr rfl) (ba w (.map #[] 0));have⟨E,F,p,q⟩:=f 2 (.func (.func 239) #[] #[]) m (dr rfl) (dr rfl) o;have⟨W3,H,r,s⟩:=f 4 (.func (.func 240) #[] #[]) p (dr rfl) (dr rfl) q;have⟨I,J,t,u⟩:=f 5 (.func (.func 241) #[] #[]) r (dr rfl) (dr rfl) s;have⟨L,N,x,y⟩:=f 6 (.func (.func 242) #[] #[]) t (dr rfl) (dr rfl) u;go_enter func227,ntmps227;go_wp2;go_ret;exact⟨_,rfl,(aA x y).y⟩
def aav{W}{b}(h:W.ownsMap prog 5 sN b 5 vu){a:UInt8}(i:a=4\/a=5\/a=6):(Instr.lookup 321 (.map (some b)) a true).run prog W= .ok (.tuple #[.func (.func (if a=4 then 240 else if a=5 then 241 else 242)) #[] #[],.bool true]) W:=by
 have j:(zeroValue 299).run prog W= .ok .nilFunc W:=by kernel_rfl
 have key:∀z,(Lit.int .u8 z).wf=true->∃v ps,(Instr.lookup 321 (.map (some b)) (.int .u8 z) true).run prog W= .ok (.tuple #[v,(Maps.has vu (.int .u8 z))]) W/\sN v=some (vu.atKey (.int .u8 z) (.held .nilFunc),ps):=fun z c=>h.look_ok Um P8 j (show sN .nilFunc=some (.held .nilFunc,[])from rfl) (Ov z c);have f:∀(z:Int)(g:Value),(Lit.int .u8 z).wf=true->vu.atKey (.int .u8 z) (.held .nilFunc)= .held g->(Instr.lookup 321 (.map (some b)) (.int .u8 z) true).run prog W= .ok (.tuple #[g,(Maps.has vu (.int .u8 z))]) W:=fun z g c e=>by
  have⟨v,ps,m,l⟩:=key z c;have:=((yD (aR l)).1).t e
  grind
 obtain rfl|rfl|rfl:=i
 .exact f 4 _ (dr rfl) (by kernel_rfl)
 .exact f 5 _ (dr rfl) (by kernel_rfl)
 exact f 6 _ (dr rfl) (by kernel_rfl)
attribute [local go_sem] rj kf
def U7(x)(c:x.op=4\/x.op=5\/x.op=6)(bZ a b:UInt8)(w):Calls prog (if x.op=4 then 240 else if x.op=5 then 241 else 242) #[bZ,a,b] w (Rs (Value.int .u8 (Y (uk x bZ a b))) w):=by
 unfold uk;obtain h|h|h:=c<;>rw[h]
 .go_enter func240,ntmps240;go_wp2;go_ret;exact⟨rfl,aP _ _⟩
 .go_enter func241,ntmps241;go_wp2;go_ret;exact⟨rfl,aP _ _⟩
 by_cases e:bZ=a
 .go_enter func242,ntmps242;go_wp2;go_ret;exact⟨rfl,aP _ _⟩
 have:(bZ==a)=false:=by simpa using e
 go_enter func242,ntmps242;go_wp2;go_ret;exact⟨rfl,aP _ _⟩
end
def OZ{b:Bf}{l m:UInt8}(P:UInt8->Bool):((b.filter fun x=>P x.1).filter fun x=>x.1==l)=if P l then b.filter (fun x=>x.1==l)else []:=by
 rw[List.filter_filter];by_cases P l=true
 .grind
 simp_all
def ZJ(b)(e)(l):(oZ b e).filter (fun x=>x.1==l)=if e.1=l then b.filter (fun x=>x.1==l)++[e]else b.filter (fun x=>x.1==l):=by
 unfold oZ;rw[oh,LK,OZ (m:=l) (fun x=>decide (x<=e.1)),OZ (m:=l) (fun x=>decide (e.1<x))]
 grind
def ag1(b)(e):(oZ b e)=b.length+1:=by
 unfold oZ;rw[dc,gL];have:(b.filter fun x=>decide (e.1<x.1))=(b.filter fun x=>!decide (x.1<=e.1)):=by
  grind
 have:∀l:Bf,(l.filter fun x=>decide (x.1<=e.1)).length+(l.filter fun x=>!decide (x.1<=e.1))=l:=fun l=>by
  induction l with
  |nil=>rfl
  |cons x l a=>
   grind
 grind
def abR{b}{e}(h:b.Pairwise fun x y=>x.1<=y.1):(oZ b e).Pairwise fun x y=>x.1<=y.1:=by
 refine Fu.2 ⟨h.sublist BW,lU.2 ⟨fun x a=>?_,h.sublist BW⟩,fun x a y c=>?_⟩
 .grind
 grind
def YO{b}{e x}(h:x∈oZ b e):x∈b\/x=e:=by
 unfold oZ at h
 grind
def ZK(b)(m l):(tB b m).filter (fun x=>x.1==l)=if m=l then(b.filter (fun x=>x.1==l)).tail else b.filter (fun x=>x.1==l):=by
 unfold tB
 induction b with
 |nil=>simp
 |cons x b a=>
  grind
def Va(b:Bf)(l):b.find? (fun e=>e.1==l)=(b.filter fun x=>x.1==l).head?:=by
 grind
def Ma:∀(b:Bf)(l),l∈kA b↔∃v,(l,v)∈b
 |[],l=>by simp[kA]
 |[e],l=>by obtain⟨a,v⟩:=e;simp[kA]
 |e::c::b,l=>by
  have:=Ma (c::b) l;unfold kA
  grind
def tX(p)(g:p.h.length<=4)(M)(x):x∈di p M↔x.t<p.h.length/\if x.d then∃v,(x.l,v)∈M.I x.t else x.l=0/\mX p M x.t=true:=by
 unfold di rc;rw[mR];have e:∀t,t<p.h.length->(UInt8.ofNat t).toNat=t:=fun t a=>by rw[pw];omega
 constructor
 .rintro⟨t,a,b⟩;have a:=fS.1 a;obtain b|b:=mg.1 b
  .grind
  obtain⟨l,c,rfl⟩:=bX.1 b;simp only[e t a];exact⟨a,by simpa using(Ma _ l).1 c⟩
 rintro⟨a,b⟩;refine⟨x.t,fS.2 a,?_⟩;obtain⟨t,d,l⟩:=x;have f:UInt8.ofNat t=t:=UInt8.ofNat_toNat;unfold xL;simp only[f]at b⊢;cases d with
 |true=>
  refine AI _ (bX.2 ⟨l,(Ma _ l).2 (by grind),rfl⟩)
 |false=>
  grind
section
section
variable{code:Nat->List Ins}{n:Nat}{i:Nat->UInt8}{R:Nat->aK}{src:Pt->Option Pt}{k:Pt->Nat}{K:Nat}{M M':Mc}{t:Nat}{x:Ins}{a':Am}
def dv.skip(h:dv code n i R k K M)(o:∀a,(g n R).Ac a->k a≠K):dv code n i R k (K+1) M:=by
 refine h.go (tP _) h.ok h.zero h.cont (fun _=>id) (fun a r u=>absurd r u) (fun a f r u=>absurd (by omega) (o a f)) (fun a f r=>?_) h.jb;have:=o a ⟨(h.same f).1,.inr r⟩
 grind
def dv.drain(u:se code n i R src k)(h:dv code n i R k K M){p}(hi:M.a.In (t,p))(o:(g n R).kd (t,p)=2)(J:k (t,p)=K):∃M',nj code n i M M'/\dv code n i R k (K+1) M':=by
 have⟨y,_⟩:=h.same hi;have L:(M.a.gE t (M.a.lo (t,p))).head?=some p:=by
  have w:=Am.l7.2 ⟨(h.b.2 ⟨hi,o,nJ J.s⟩),rfl⟩;cases A:(M.a.gE t (M.a.lo (t,p))).head? with
  |none=>rw[List.head?_eq_none_iff.1 A]at w;cases w
  |some q=>
   obtain e|e:=Tz (h.ok.inv.GV _) A p w
   .rw[e]
   have⟨N,Q⟩:=Am.l7.1 (F9 (by omega):q∈M.a.gE t (M.a.lo (t,p)));have⟨C,T,ag⟩:=h.b.1 (show M.a.B (t,q)from N);have:=u.kp t q p e ⟨(h.same C).1,.inr T⟩ ⟨y,.inr o⟩ (.inr (.inr (.inr (.inr ⟨o,.inl (by rw[<-h.lo C,Q,(h.lo hi)])⟩))));omega
 have E:Mv code n i M ⟨M.run,M.a.dr t (M.a.lo (t,p)) p⟩:= .drain L;refine⟨_,.step .refl E,?_⟩;have W:∀a,a≠(t,p)->(g n R).Ac a->k a≠K:=fun a f r ah=>f (u.inj a _ r ⟨y,.inr o⟩ (by omega));have X:∀l a,a∈(M.a.dr t (M.a.lo (t,p)) p).co l↔a∈M.a.co l\/l=M.a.lo (t,p)/\a=(t,p):=by
  intro l a;show a∈P M.a.co (M.a.lo (t,p)) (M.a.co (M.a.lo (t,p))++[(t,p)]) l↔_;unfold P
  grind
 refine h.go (tP _) (E.ok (fun t x h=>(u.ops t x h).1) h.ok) h.zero h.cont (fun _=>id) (fun a f r=>absurd f r) (fun a F f r=>?_) (fun a F aa=>?_) (fun l=>?_)
 .by_cases e:a=(t,p)
  .subst e;exact hi
  grind
 .have ad:(M.a.dr t (M.a.lo (t,p)) p).D a↔a∈(M.a.dr t (M.a.lo (t,p)) p).co (M.a.lo a):=nY;rw[ad,X];by_cases e:a=(t,p)
  .grind
  have:=W a e ⟨(h.same F).1,.inr aa⟩;constructor
  .rintro(f|f)
   .exact .inl f
   grind
  rintro(f|f)
  .exact .inl f
  omega
 show(P M.a.co (M.a.lo (t,p)) (M.a.co (M.a.lo (t,p))++[(t,p)]) l).Pairwise _;unfold P;by_cases e:l=M.a.lo (t,p)
 .subst e;rw[aq rfl];refine Am.Gw (h.jb _) fun b H=>?_;have⟨I,ae,af,_⟩:=h.ok.inv.cin _ b H;have:=(h.co b I ((h.kd I).s.t ae)).1 (by unfold Am.D;rw[af];exact H);omega
 rw[O e];exact h.jb l
def dv.next(h:dv code n i R k K M)(f:t<n)(o:(g n R).In (t,(M.run t).many)):∃x,(code t)[(M.run t).pc]? =some x:=by
 cases r:(code t)[(M.run t).pc]? with
 |some x=>exact⟨x,rfl⟩
 |none=>
  have:=(h.cont t f).fin r;have:=(rK (a:=(t,(M.run t).many)) f).1 o
  grind
def dv.qi(y:se code n i R src k)(h:dv code n i R k K M):∃aG M',K<aG/\nj code n i M M'/\dv code n i R k aG M':=by
 by_cases aH:∃a,(g n R).Ac a/\k a=K
 case neg=>exact⟨K+1,M,by omega,.refl,h.skip fun a L e=>aH ⟨a,L,e⟩⟩
 obtain⟨⟨t,p⟩,⟨C,H⟩,af⟩:=aH;have A:t<n:=Eh C;have aI:=(rK (a:=(t,p)) A).1 C;have ay:∀t x,x∈code t->xH x:=fun t x h=>(y.ops t x h).1;have aJ:∀q,q<p->(g n R).In (t,q):=fun q ag=>(rK (a:=(t,q)) A).2 (lZ ag aI);have aQ:∀q,q<p->(g n R).kd (t,q)=1->k (t,q)<K:=fun q ag e=>af▸y.kp t q p ag ⟨aJ q ag,.inl e⟩ ⟨C,H⟩ (.inl e);have aR:∀q f,q<f->f<p->(g n R).kd (t,f)=3->(g n R).md (t,f)=3->(g n R).kd (t,q)=2->k (t,q)<K:=fun q f w N aS aT ap=>
  af▸y.kp t q p (by omega) ⟨aJ q (by omega),.inr ap⟩ ⟨C,H⟩ (.inr (.inr (.inr (.inl ⟨f,w,N,aS,aT⟩))))
 by_cases hi:M.a.In (t,p)
 .obtain e|e:=H
  .have:=h.rd _ hi e;omega
  have⟨M',am,aU⟩:=h.drain y hi e af;exact⟨K+1,M',by omega,am,aU⟩
 have aV:(M.run t).many<=p:=by
  apply ki;intro a7;exact hi (h.ok.cz.2 (by show p<(M.run t).many;omega))
 have⟨o,am,w,g3,_,aW⟩:=dv.Oe y A (nu aI) aQ aR _ M h (av _) aV;subst g3;have⟨x,aa⟩:=w.next A C
 have⟨aX,aY⟩:=aW x aa;have aK:=cB aa;have⟨v,az⟩:=(w.cont t A).next aa
 have ev:=fun(aZ:(o.run t).many<(bw (o.run t) x v).many)=>(wg A az aZ).2;obtain F|F|F|F|F|F:=iY (y.ops t x aK).2.1 (y.ops t x aK).2.2
 .have⟨e1,e2⟩:=Dc (r:=o.run t) (v:=v) F;have E:=ev (by omega);have Q:(g n R).kd (t,(o.run t).many)=1:=by unfold Am.kd;rw[E];exact e2.kind
  have ar:(g n R).lo (t,(o.run t).many)=x.loc.toNat:=by unfold Am.lo;rw[E,e2.loc]
  have au:=w.fD y C Q af;have X:o.dM i t x=v:=by
   have N:=y.val _ C Q;rw[E,e2.val,<-au,ar]at N;rw[N];unfold Mc.dM;rw[ar]at au;cases e:o.a.fD t x.loc.toNat with
   |none=>rfl
   |some s=>
    have⟨aC,_⟩:=(w.ok.inv.fD x.loc.toNat).1 s e;show(o.a.ev s).val=((g n R).ev s).val;rw[(w.same aC).2]
  have ah:jM (code t) (R t) (o.next i t x):=by unfold Mc.next;rw[X];exact az
  have ai:(o.next i t x).many=(o.run t).many+1:=by unfold Mc.next;rw[X];exact e1
  have J:Mv code n i o (o.ex i t x (o.a.rd t (o.e1 i t x))):= .load A aa F;refine⟨K+1,_,by omega,am.step J,w.F1 A (tP _) (J.ok ay w.ok) ah (fun q aj an _=>?_) (fun a L ad ae=>?_) (fun l a=>?_) (fun a ak ao ad ae=>?_) w.jb⟩
  .rw[show q=(o.run t).many by omega];omega
  .have:=y.inj a _ L ⟨C,H⟩ (by omega);subst this;exact⟨rfl,by rw[ai];exact qW _⟩
  .constructor
   .exact .inl
   rintro(b|⟨_,T,al,W,aD,aE⟩)
   .exact b
   have aw:(g n R).In a:=by obtain⟨u,q⟩:=a;obtain rfl:u=t:=T;exact(wg A ah al).1
   have:=y.inj a _ ⟨aw,.inr W⟩ ⟨C,H⟩ (by omega);subst this;exact Am.ij Q W
  have:=y.inj a _ ⟨(w.same ao).1,.inr ak⟩ ⟨C,H⟩ (by omega);subst this;exact Am.ij Q ak
 .have⟨e1,e2⟩:=vV (r:=o.run t) (v:=v) F;have a0:(g n R).kd (t,(o.run t).many)=2:=by unfold Am.kd;rw[ev (by omega)];exact e2.kind
  have J:Mv code n i o (o.ex i t x (o.a.wr t (o.e1 i t x))):= .store A aa F;have N:=w.SK A ay J aa (.inl F) rfl;have a1:(o.ex i t x (o.a.wr t (o.e1 i t x))).a.In (t,(o.run t).many):=by
   rw[N.ok.cz];show _<(P o.run t (o.next i t x) t).many;rw[bc];have:=(vV (r:=o.run t) (v:=o.dM i t x) F).1;show _<(bw (o.run t) x (o.dM i t x)).many;omega
  have⟨M',aj,an⟩:=N.drain y a1 a0 af;exact⟨K+1,M',by omega,(am.step J).t aj,an⟩
 .have⟨e2,I⟩:=tC (r:=o.run t) (v:=v) F;have a2:(o.run t).many<(bw (o.run t) x v).many:=by
   revert I;cases my (o.run t) x v with
   |none=>intro I;have I:=I;omega
   |some u=>intro I;have:=I.1;omega
  have E:=ev a2;have Q:(g n R).kd (t,(o.run t).many)=1:=by unfold Am.kd;rw[E];exact e2.kind
  have a3:(g n R).md (t,(o.run t).many)=3:=by unfold Am.md;rw[E];exact e2.mode
  have ar:(g n R).lo (t,(o.run t).many)=x.loc.toNat:=by unfold Am.lo;rw[E,e2.loc]
  have au:=w.fD y C Q af;have X:o.dM i t x=v:=by
   have N:=y.val _ C Q;rw[E,e2.val,<-au,ar]at N;rw[N];unfold Mc.dM;rw[ar]at au;cases e:o.a.fD t x.loc.toNat with
   |none=>rfl
   |some s=>
    have⟨aC,_⟩:=(w.ok.inv.fD x.loc.toNat).1 s e;show(o.a.ev s).val=((g n R).ev s).val;rw[(w.same aC).2]
  have ah:jM (code t) (R t) (o.next i t x):=by unfold Mc.next;rw[X];exact az
  have aL:o.a.I t=[]:=yB.2 fun q ag=>by
   have⟨aj,an,a8⟩:=w.b.1 (show o.a.B (t,q)from ag);have:=y.kp t q (o.run t).many (w.ok.cz.1 aj) ⟨(w.same aj).1,.inr an⟩ ⟨C,H⟩ (.inr (.inr (.inl a3)));omega
  cases aA:my (o.run t) x v with
  |none=>
   rw[aA]at I;have ai:(o.next i t x).many=(o.run t).many+1:=by unfold Mc.next;rw[X];exact I
   have J:Mv code n i o (o.ex i t x (o.a.rd t (o.e1 i t x))):= .B7 A aa F aL (by rw[X];exact aA);refine⟨K+1,_,by omega,am.step J,w.F1 A (tP _) (J.ok ay w.ok) ah (fun q aj an _=>?_) (fun a L ad ae=>?_) (fun l a=>?_) (fun a ak ao ad ae=>?_) w.jb⟩
   .rw[show q=(o.run t).many by omega];omega
   .have:=y.inj a _ L ⟨C,H⟩ (by omega);subst this;exact⟨rfl,by rw[ai];exact qW _⟩
   .constructor
    .exact .inl
    rintro(b|⟨_,T,al,W,aD,aE⟩)
    .exact b
    have aw:(g n R).In a:=by obtain⟨u,q⟩:=a;obtain rfl:u=t:=T;exact(wg A ah al).1
    have:=y.inj a _ ⟨aw,.inr W⟩ ⟨C,H⟩ (by omega);subst this;exact Am.ij Q W
   have:=y.inj a _ ⟨(w.same ao).1,.inr ak⟩ ⟨C,H⟩ (by omega);subst this;exact Am.ij Q ak
  |some u=>
   rw[aA]at I;obtain⟨I,aB⟩:=I;have ai:(o.next i t x).many=(o.run t).many+2:=by unfold Mc.next;rw[X];exact I
   have ax:=wg A az (p:=(o.run t).many+1) (by omega);have aF:(g n R).kd (t,(o.run t).many+1)=2:=by unfold Am.kd;rw[ax.2];exact aB.kind
   have a4:(g n R).md (t,(o.run t).many+1)=3:=by unfold Am.md;rw[ax.2];exact aB.mode
   have aM:(g n R).lo (t,(o.run t).many+1)=x.loc.toNat:=by unfold Am.lo;rw[ax.2,aB.loc]
   have:k (t,(o.run t).many+1)=K+1:=by rw[y.at_ t _ ax.1 aF a4,af]
   have J:Mv code n i o (o.ex i t x ((o.a.rd t (o.e1 i t x)).put t (o.e2 i t x))):= .dP A aa F aL (by rw[X];exact aA);have aN:(o.e2 i t x).loc=x.loc:=by unfold Mc.e2 Mc.next;rw[X];exact aB.loc
   have aO:(o.a.rd t (o.e1 i t x)).nx t=(t,(o.run t).many+1):=by
    show(t,(o.a.more t (o.e1 i t x) t).length)=_;unfold Am.more;rw[bc,dc,w.ok.len];rfl
   have two:∀a,(g n R).Ac a->K<=k a->k a<K+2->a=(t,(o.run t).many)\/a=(t,(o.run t).many+1):=fun a L ad ae=>by
    by_cases e:k a=K
    .exact .inl (y.inj a _ L ⟨C,H⟩ (by omega))
    exact .inr (y.inj a _ L ⟨ax.1,.inr aF⟩ (by omega))
   have a5:∀l a,a∈((o.a.rd t (o.e1 i t x)).put t (o.e2 i t x)).co l↔a∈o.a.co l\/l=x.loc.toNat/\a=(t,(o.run t).many+1):=by
    intro l a;show a∈P o.a.co (o.e2 i t x).loc.toNat (o.a.co (o.e2 i t x).loc.toNat++[(o.a.rd t (o.e1 i t x)).nx t]) l↔_;rw[aN,aO];unfold P;by_cases e:l=x.loc.toNat
    .subst e;rw[aq rfl];simp
    rw[O e];simp[e]
   refine⟨K+2,_,by omega,am.step J,w.F1 A (by omega) (J.ok ay w.ok) ah (fun q aj an ag=>?_) (fun a L ad ae=>?_) (fun l a=>?_) (fun a ak ao ad ae=>?_) (fun l=>?_)⟩
   .by_cases e:q=(o.run t).many
    .rw[e];omega
    rw[show q=(o.run t).many+1 by omega];omega
   .obtain rfl|rfl:=two a L ad ae
    .exact⟨rfl,by rw[ai];show(o.run t).many<_;omega⟩
    exact⟨rfl,by rw[ai];show(o.run t).many+1<_;omega⟩
   .rw[a5];constructor
    .rintro(b|⟨T,rfl⟩)
     .exact .inl b
     exact .inr ⟨by rw[aM,T],rfl,by rw[ai];show(o.run t).many+1<_;omega,aF,by omega,by omega⟩
    rintro(b|⟨a6,T,al,W,aD,aE⟩)
    .exact .inl b
    have aw:(g n R).In a:=by obtain⟨u,q⟩:=a;obtain rfl:u=t:=T;exact(wg A ah al).1
    obtain rfl|rfl:=two a ⟨aw,.inr W⟩ aD aE
    .exact Am.ij Q W
    exact .inr ⟨by rw[a6,aM],rfl⟩
   .have ap:=w.ok.cz.1 ao;obtain rfl|rfl:=two a ⟨(w.same ao).1,.inr ak⟩ ad ae
    .exact n9 _ ap
    have ap:(o.run t).many+1<(o.run t).many:=ap;omega
   show(P o.a.co (o.e2 i t x).loc.toNat (o.a.co (o.e2 i t x).loc.toNat++[(o.a.rd t (o.e1 i t x)).nx t]) l).Pairwise _;rw[aN,aO];unfold P;split
   .refine Am.Gw (w.jb _) fun b L=>?_;have⟨T,al,W,_⟩:=w.ok.inv.cin _ b L;have:=(w.co b T ((w.kd T).s.t al)).1 (by unfold Am.D;rw[W];exact L);omega
   exact w.jb l
 .have⟨e1,e2⟩:=xX (r:=o.run t) (v:=v) F;have aP:(g n R).kd (t,(o.run t).many)=3:=by unfold Am.kd;rw[ev (by omega)];exact e2.kind
  obtain e|e:=H
  .exact Am.xa e aP
  exact Am.wP e aP
 .exact absurd F aX
 exact absurd F aY
def dv.abW(g:se code n i R src k):dv code n i R k 0 start:=by
 refine⟨Nc i,fun _ _=>rfl,g.cont,fun a f=>absurd f (jD _),fun a _ h=>absurd h (jD _),fun a f=>absurd f (jD _),fun l=>List.Pairwise.nil⟩
def dv.upto(g:se code n i R src k):∀f,∃K M,f<=K/\nj code n i start M/\dv code n i R k K M:=by
 intro f
 induction f with
 |zero=>exact⟨0,_,av _,.refl,dv.abW g⟩
 |succ f h=>
  obtain⟨K,M,y,o,r⟩:=h;by_cases f+1<=K
  .grind
  have⟨u,M',A,w,g3⟩:=r.qi g;exact⟨u,M',by omega,o.t w,g3⟩
def dv.ends(w:se code n i R src k)(E:∀a,(g n R).Ac a->k a<K):∀m,m<=n->∀M,dv code n i R k K M->∃M',nj code n i M M'/\dv code n i R k K M'/\∀t,t<m->M'.run t=R t:=by
 intro m
 induction m with
 |zero=>exact fun _ M h=>⟨M,.refl,h,fun t o=>absurd o (jD _)⟩
 |succ m J=>
  intro Q M h;have⟨L,N,F,T⟩:=J (by omega) M h;have H:∀q,q<(R m).many->(g n R).In (m,q):=fun q y=>(rK (a:=(m,q)) (by omega)).2 y;have⟨u,O,A,W,X,aa⟩:=dv.Oe w (t:=m) (by omega) (av _) (fun q y e=>E _ ⟨H q y,.inl e⟩) (fun q f C I _ _ e=>E _ ⟨H q (by omega),.inr e⟩) _ L F (av _) (F.cont m (by omega)).bZ.1;refine⟨u,N.t O,A,fun t o=>?_⟩;by_cases e:t=m
  .subst e;cases C:(code t)[(u.run t).pc]? with
   |none=>exact(A.cont t (by omega)).fin C
   |some x=>
    have⟨v,P⟩:=(A.cont t (by omega)).next C
    have:=P.bZ.1;have I:=cB C;obtain o|o|o|o|o|o:=iY (w.ops t x I).2.1 (w.ops t x I).2.2
    .have:=(Dc (r:=u.run t) (v:=v) o).1;omega
    .have:=(vV (r:=u.run t) (v:=v) o).1;omega
    .have:=(tC (r:=u.run t) (v:=v) o).2
     grind
    .have:=(xX (r:=u.run t) (v:=v) o).1;omega
    .grind
    grind
  grind
def se.run(A:se code n i R src k)(r:∃K,∀a,(g n R).Ac a->k a<K):∃M,nj code n i start M/\iB i M/\(∀t,t<n->M.run t=R t)/\(∀t,M.a.I t=[])/\
 (∀l a,a∈M.a.co l↔(g n R).In a/\(g n R).kd a=2/\(g n R).lo a=l)/\∀l,(M.a.co l).Pairwise fun a b=>k a<k b:=by
 obtain⟨E,r⟩:=r;have⟨K,M,F,H,I⟩:=dv.upto A E;have u:∀a,(g n R).Ac a->k a<K:=fun a w=>aW (r a w) F;have⟨M',J,h,g3⟩:=dv.ends A u n (av _) M I;refine⟨M',H.t J,h.ok,g3,fun t=>?_,fun l a=>?_,h.jb⟩
 .refine yB.2 fun q L=>?_;have⟨N,O,P⟩:=h.b.1 (show M'.a.B (t,q)from L);have:=u _ ⟨(h.same N).1,.inr O⟩;omega
 constructor
 .intro w;have⟨f,o,y,_⟩:=h.ok.inv.cin l a w;exact⟨(h.same f).1,(h.kd f).s.t o,(h.lo f).s.t y⟩
 rintro⟨f,o,y⟩;have C:=u a ⟨f,.inr o⟩;have hi:=h.ex a ⟨f,.inr o⟩ C;have:=(h.co a hi o).2 C;unfold Am.D at this;rw[h.lo hi,y]at this;omega
end
end
section
def bH(p:a8)(t:Nat):List Ins:=p.h.getD t []
def w(p:a8)(l:Nat):UInt8:=p.init.getD l 0
def eW(A:Am)(t:Nat)(l:UInt8):Bf:=(A.gE t l.toNat).map fun q=>(l,(A.ev (t,q)).val)
structure gD(p:a8)(A:Mc)(M:Ms):Prop where
 pc:∀t,t<p.h.length->(M.C t 0).toNat=(A.run t).pc
 cY:∀t,t<p.h.length->∀r,r<8->M.C t (1+r)=(A.run t).L r
 mem:∀l,l<p.N->M.mem l=A.a.wv (w p) l (A.a.jV l)
 I:∀t(l:UInt8),(M.I t).filter (fun e=>e.1==l)=eW A.a t l
 off:∀t,p.h.length<=t->A.a.I t=[]
section
variable{i:Nat->UInt8}{A A':Am}{t u:Nat}{e:Ev}
def Yl(a:A.Inv i)(b:A'.es=A.more t e)(c:A'.I u=A.I u)(l):A'.gE u l=A.gE u l:=by
 unfold Am.gE;rw[c];refine MN fun q f=>?_;unfold Am.lo;rw[Am.BB b (a.bin (u,q) f).1]
def AU(a:A.Inv i)(b:A'.es=A.more t e)(c:A'.I u=A.I u)(l):eW A' u l=eW A u l:=by
 unfold eW;rw[Yl a b c];refine Br fun q f=>?_;rw[Am.BB b (a.bin (u,q) (Am.l7.1 f).1).1]
def EI(f:A.Inv i)(b:A'.es=A.more t e){s}(c:∀a,s=some a->A.In a)(l):A'.wv i l s=A.wv i l s:=by
 cases s with
 |none=>rfl
 |some a=>show(A'.ev a).val=(A.ev a).val;rw[Am.BB b (c a rfl)]
def Hx(b:A.Inv i)(l):∀a,A.jV l=some a->A.In a:=fun a h=>(b.cin l a (rT h)).1
def aeJ{f}{r}(h:∀j,j<8->f (1+j)=r.L j){a}(b:a.cY=true->a.n.toNat<8):kC f a=bU r a:=by
 unfold kC LS bU uZ
 grind
def gD.fD{p}{A}{M}(h:gD p A M){t}{l:UInt8}(f:l<p.N):pZ M t l=A.a.wv (w p) l (A.a.fD t l):=by
 unfold pZ Am.fD;rw[h.I t l];unfold eW;cases e:(A.a.gE t l).getLast? with
 |none=>rw[JZ,e];exact h.mem _ f
 |some q=>rw[JZ,e];rfl
def gD.empty{p}{A}{M}(h:gD p A M)(t):M.I t=[]↔A.a.I t=[]:=by
 constructor
 .intro e;refine yB.2 fun q f=>?_;have:=h.I t (A.a.ev (t,q)).loc;have:(((A.a.ev (t,q)).loc,(A.a.ev (t,q)).val):UInt8×UInt8)∈eW A.a t (A.a.ev (t,q)).loc:=bX.2 ⟨q,Am.l7.2 ⟨f,rfl⟩,rfl⟩
  grind
 intro e;refine yB.2 fun x g=>?_;have:x∈(M.I t).filter fun y=>y.1==x.1:=nE.2 ⟨g,by simp⟩;rw[(h.I t x.1)]at this;have⟨q,f,_⟩:=bX.1 this;have:=(Am.l7.1 f).1
 grind
end
def MJ{r}{x}{v}(h:x.op=1\/x.op=4\/x.op=5\/x.op=6):(bw r x v).pc=r.pc+1/\(bw r x v).L=P r.L x.dst v:=by
 unfold bw eF;obtain h|h|h|h:=h<;>rw[h]
 .exact⟨rfl,rfl⟩
 .exact⟨rfl,rfl⟩
 .exact⟨rfl,rfl⟩
 simp only[show(6:UInt8).toNat=6 from rfl,qk];split<;>exact⟨rfl,rfl⟩
def JA{x}{f}{g}{v}(h:∀j,j<8->f (1+j)=g j)(j)(a:j<8):sJ x f v (1+j)=P g x.dst v j:=by
 unfold sJ P
 grind
def BK{v:UInt8}{n:Nat}(h:v=n)(a:n<255):(v+1).toNat=n+1:=by
 rw[IU]
 grind
end
section
theorem JO{P}{a}:∀l:List Nat,(l.erase a).filter P=if P a then(l.filter P).erase a else l.filter P
 |[]=>by simp
 |b::l=>by
  by_cases b=a
  .grind
  rw[OD (by grind)];by_cases h:P b=true
  .rw[Jf h,Jf h,OD (by grind),JO l]
   grind
  rw[IT h,IT h,JO l]
section
variable{p:a8}{A:Mc}{M:Ms}{t:Nat}{x:Ins}
theorem gD.C(h:gD p A M){a'}{f:Ms}{r'}{f'}(i:f.C=P M.C t f')(E:t<p.h.length->(f' 0).toNat=r'.pc)(F:∀j,j<8->f' (1+j)=r'.L j)
 (o:∀l,l<p.N->f.mem l=a'.wv (w p) l (a'.jV l))(r:∀u(l:UInt8),(f.I u).filter (fun e=>e.1==l)=eW a' u l)(y:∀u,p.h.length<=u->a'.I u=[]):gD p ⟨P A.run t r',a'⟩ f:=by
 refine⟨fun u g=>?_,fun u g j C=>?_,o,r,y⟩
 .show _=(P A.run t r' u).pc;rw[i];by_cases e:u=t
  .subst e;rw[bc,bc];omega
  rw[bf _ _ e,bf _ _ e];exact h.pc u g
 show _=(P A.run t r' u).L j;rw[i];by_cases e:u=t
 .subst e;rw[bc,bc]
  grind
 rw[bf _ _ e,bf _ _ e];exact h.cY u g j C
variable(hP:cO p)(hS:gD p A M)(hA:iB (w p) A)(ht:t<p.h.length)(hx:(bH p t)[(A.run t).pc]? =some x)
include hP ht hx in
theorem vN:Em p.N ((bH p t).length-1-(A.run t).pc) x/\(A.run t).pc<12:=by
 unfold bH at*
 rw[bj,aI ht,sH]at*
 have a:=oM ht;have:=(bL.1 hx).1;have:=hP.len _ a;exact⟨hP.ins _ a _ _ hx,by omega⟩
include hS ht hx in
theorem ac2:nU p M t=some x:=by unfold nU;rw[hS.pc t ht];exact hx
include hS ht in
theorem z7{a:Arg}(b:a.cY=true->a.n.toNat<8):kC (M.C t) a=bU (A.run t) a:=aeJ (hS.cY t ht) b
include hP hS ht hx in
theorem Cg{f:Nat->UInt8}(a:f 0=M.C t 0+1):(f 0).toNat=(A.run t).pc+1:=by
 rw[a];exact BK (hS.pc t ht) (by have:=(vN hP ht hx).2;omega)
include hP hS ht hx in
theorem OG(a:x.op=1\/x.op=2\/x.op=4\/x.op=5\/x.op=6):A.dM (w p) t x=pZ M t x.loc:=(hS.fD ((vN hP ht hx).1.loc a)).s
include hS hA in
theorem Mb(e:Ev)(l:Nat)(a:l<p.N):M.mem l=(A.a.rd t e).wv (w p) l ((A.a.rd t e).jV l):=by
 rw[show(A.a.rd t e).jV l=A.a.jV l from rfl,EI (A':=A.a.rd t e) hA.inv rfl (Hx hA.inv l)];exact hS.mem l a
include hP hS hA ht hx
theorem PB(a:x.op=1):gD p (A.ex (w p) t x (A.a.rd t (A.e1 (w p) t x))) (iX M t x):=by
 unfold iX;rw[aq a];have b:=OG hP hS ht hx (.inl a);have⟨c,e⟩:=MJ (r:=A.run t) (v:=A.dM (w p) t x) (.inl a);refine hS.C rfl (fun _=>?_) (fun j f=>?_) (fun l g=>Mb hS hA _ l g) (fun u l=>?_) hS.off
 .rw[show(A.next (w p) t x).pc=_ from c];exact Cg hP hS ht hx rfl
 .rw[show(A.next (w p) t x).L=_ from e,b];exact JA (hS.cY t ht) j f
 rw[AU (A':=A.a.rd t _) hA.inv rfl rfl];exact hS.I u l
theorem Sa(a:x.op=2):gD p (A.ex (w p) t x (A.a.wr t (A.e1 (w p) t x))) (iX M t x):=by
 have⟨_,c⟩:=vV (r:=A.run t) (v:=A.dM (w p) t x) a;have g:=(vN hP ht hx).1.ok.a;unfold iX;rw[O (by rw[a];decide),aq a];have e1:(bw (A.run t) x (A.dM (w p) t x)).pc=(A.run t).pc+1/\(bw (A.run t) x (A.dM (w p) t x)).L=(A.run t).L:=by unfold bw eF;rw[a];exact⟨rfl,rfl⟩
 refine hS.C rfl (fun _=>?_) (fun j h=>?_) (fun l i=>?_) (fun u l=>?_) (fun u m=>?_)
 .rw[show(A.next (w p) t x).pc=_ from e1.1];exact Cg hP hS ht hx (bc _ _ _)
 .rw[show(A.next (w p) t x).L=_ from e1.2,bf _ _ (by omega)];exact hS.cY t ht j h
 .rw[show(A.a.wr t (A.e1 (w p) t x)).jV l=A.a.jV l from rfl,EI (A':=A.a.wr t _) hA.inv rfl (Hx hA.inv l)];exact hS.mem l i
 .show(P M.I t _ u).filter _=_;by_cases e:u=t
  .subst e;rw[bc,ZJ,hS.I];have f:=Am.xK (A:=A.a) (A':=A.a.wr u (A.e1 (w p) u x)) (t:=u) rfl;have n:(A.a.wr u (A.e1 (w p) u x)).gE u l.toNat=A.a.gE u l.toNat++if x.loc=l then [(A.a.es u).length]else []:=by
    show(P A.a.I u (A.a.I u++[(A.a.es u).length]) u).filter _=_;rw[bc,oh];congr 1
    .unfold Am.gE;refine MN fun q b=>?_;unfold Am.lo;rw[Am.BB (A:=A.a) rfl (hA.inv.bin (u,q) b).1]
    have e2:((A.a.wr u (A.e1 (w p) u x)).lo (u,(A.a.es u).length)==l.toNat)=decide (x.loc=l):=by
     unfold Am.lo;rw[show((u,(A.a.es u).length):Pt)=A.a.nx u from rfl,f,show(A.e1 (w p) u x).loc=x.loc from c.loc,kG];simp[tR]
    by_cases e:x.loc=l
    .rw[aq e,Jf (by rw[e2];simpa using e)];rfl
    rw[O e,IT (by rw[e2];simpa using e)];rfl
   have o:(A.a.gE u l.toNat).map (fun q=>(l,((A.a.wr u (A.e1 (w p) u x)).ev (u,q)).val))=eW A.a u l:=Br fun q b=>by rw[Am.BB (A:=A.a) rfl (hA.inv.bin (u,q) (Am.l7.1 b).1).1]
   rw[show eW (A.a.wr u (A.e1 (w p) u x)) u l=((A.a.wr u (A.e1 (w p) u x)).gE u l.toNat).map (fun q=>(l,((A.a.wr u (A.e1 (w p) u x)).ev (u,q)).val))from rfl,n,kx,o];by_cases e:x.loc=l
   .rw[aq e,aq e,Ef,show((u,(A.a.es u).length):Pt)=A.a.nx u from rfl,f,show(A.e1 (w p) u x).val=_ from c.val,z7 hS ht g,e]
   rw[O e,O e,pR,kL]
  rw[bf _ _ e,AU (A':=A.a.wr t _) hA.inv rfl (bf _ _ e)];exact hS.I u l
 show P A.a.I t _ u=[]
 rw[bf _ _ (by omega)];exact hS.off u m
theorem MP(a:x.op=3\/x.op=8):gD p (A.ex (w p) t x A.a) (iX M t x):=by
 have⟨b,i⟩:=vN hP ht hx;have g:=z7 hS ht b.ok.a;have h:=z7 hS ht b.ok.b;unfold iX;rw[O (by obtain a|a:=a<;>rw[a]<;>decide),O (by obtain a|a:=a<;>rw[a]<;>decide),aq (by unfold oB;obtain a|a:=a<;>rw[a]<;>rfl)];have c:=hS.pc t ht;have key:(l9 x (M.C t) 0).toNat=(bw (A.run t) x (A.dM (w p) t x)).pc/\∀j,j<8->l9 x (M.C t) (1+j)=(bw (A.run t) x (A.dM (w p) t x)).L j:=by
  unfold l9 bw eF;obtain a|a:=a
  .rw[aq a,a];refine⟨?_,fun j f=>?_⟩
   .rw[bc];exact BK c (lZ i (dr rfl))
   show _=P (A.run t).L x.dst.toNat (nL x.fn (bU (A.run t) x.a) (bU (A.run t) x.b)) j;rw[bf _ _ (by omega),g,h];by_cases e:j=x.dst.toNat
   .rw[e,bc,bc]
   rw[bf _ _ e,bf _ _ (by omega)];exact hS.cY t ht j f
  rw[O (by rw[a];decide),aq a,a];refine⟨?_,fun j f=>?_⟩
  .rw[bc,g,h];show _=(if qE x.fn (bU (A.run t) x.a) (bU (A.run t) x.b)then(A.run t).pc+x.skip.toNat else(A.run t).pc)+1;have:=(bL.1 hx).1;have:=(b.f8 a).2;split
   .have:(bH p t).length<=12:=by
     unfold bH;rw[bj,aI ht,sH];exact hP.len _ (oM ht)
    refine BK ?_ (by omega);rw[IU,c];omega
   exact BK c (by omega)
  rw[bf _ _ (by omega)];exact hS.cY t ht j f
 exact hS.C rfl (fun _=>key.1) key.2 hS.mem hS.I hS.off
theorem Qw(a:x.op=7):gD p (A.ex (w p) t x (A.a.fe t (A.e1 (w p) t x))) (iX M t x):=by
 unfold iX;rw[O (by rw[a];decide),O (by rw[a];decide),aq (by unfold oB;rw[a];rfl)];have e1:(bw (A.run t) x (A.dM (w p) t x)).pc=(A.run t).pc+1/\(bw (A.run t) x (A.dM (w p) t x)).L=(A.run t).L:=by unfold bw eF;rw[a];exact⟨rfl,rfl⟩
 have el:l9 x (M.C t)=P (M.C t) 0 (M.C t 0+1):=by unfold l9;rw[O (by rw[a];decide),O (by rw[a];decide),aq a]
 rw[el];refine hS.C rfl (fun _=>?_) (fun j b=>?_) (fun l c=>?_) (fun u l=>?_) hS.off
 .rw[show(A.next (w p) t x).pc=_ from e1.1];exact Cg hP hS ht hx (bc _ _ _)
 .rw[show(A.next (w p) t x).L=_ from e1.2,bf _ _ (by omega)];exact hS.cY t ht j b
 .rw[show(A.a.fe t (A.e1 (w p) t x)).jV l=A.a.jV l from rfl,EI (A':=A.a.fe t _) hA.inv rfl (Hx hA.inv l)];exact hS.mem l c
 rw[AU (A':=A.a.fe t _) hA.inv rfl rfl];exact hS.I u l
theorem Ob(a:x.op=4\/x.op=5\/x.op=6):iX M t x=qY M t x:=by
 unfold iX;rw[O (by grind),O (by grind),O (by unfold oB;obtain a|a|a:=a<;>rw[a]<;>decide)]
theorem QZ(a:x.op=4\/x.op=5\/x.op=6)(b:A.a.I t=[]):A.dM (w p) t x=M.mem x.loc.toNat:=by
 rw[OG hP hS ht hx (.inr (.inr a))];unfold pZ;rw[(hS.empty t).2 b];rfl
theorem RG(b:x.op=4\/x.op=5\/x.op=6)(e:A.a.I t=[])(a:my (A.run t) x (A.dM (w p) t x)=none):gD p (A.ex (w p) t x (A.a.rd t (A.e1 (w p) t x))) (iX M t x):=by
 rw[Ob hP hS hA ht hx b];have c:=QZ hP hS hA ht hx b e;have⟨f,g⟩:=MJ (r:=A.run t) (v:=A.dM (w p) t x) (.inr b);have h:uk x (M.mem x.loc.toNat) (kC (M.C t) x.a) (kC (M.C t) x.b)=M.mem x.loc.toNat:=by
  unfold my at a;rw[c]at a;unfold uk;split at a
  .cases a
  rename_i i;rw[O i];split at a
  .cases a
  rename_i m;rw[O m];split at a
  .cases a
  rename_i n;rw[z7 hS ht (vN hP ht hx).1.ok.a,O n]
 unfold qY;rw[h];refine hS.C rfl (fun _=>?_) (fun j o=>?_) (fun l q=>?_) (fun u l=>?_) hS.off
 .rw[show(A.next (w p) t x).pc=_ from f];exact Cg hP hS ht hx rfl
 .rw[show(A.next (w p) t x).L=_ from g,c];exact JA (hS.cY t ht) j o
 .show P M.mem x.loc.toNat (M.mem x.loc.toNat) l=_;rw[show P M.mem x.loc.toNat (M.mem x.loc.toNat) l=M.mem l by unfold P;split<;>simp[*]];exact Mb hS hA _ l q
 rw[AU (A':=A.a.rd t _) hA.inv rfl rfl];exact hS.I u l
theorem Ry{u:UInt8}(c:x.op=4\/x.op=5\/x.op=6)(n:A.a.I t=[])(a:my (A.run t) x (A.dM (w p) t x)=some u)(f:((A.a.rd t (A.e1 (w p) t x))).Inv (w p)):
 gD p (A.ex (w p) t x ((A.a.rd t (A.e1 (w p) t x)).put t (A.e2 (w p) t x))) (iX M t x):=by
 rw[Ob hP hS hA ht hx c];have g:=QZ hP hS hA ht hx c n;have⟨o,q⟩:=MJ (r:=A.run t) (v:=A.dM (w p) t x) (.inr c);have h:=(tC (r:=A.run t) (v:=A.dM (w p) t x) c).2;rw[a]at h;obtain⟨_,i⟩:=h;have m:(A.e2 (w p) t x).loc=x.loc:=i.loc;have s:uk x (M.mem x.loc.toNat) (kC (M.C t) x.a) (kC (M.C t) x.b)=u:=by
  unfold my at a;rw[g]at a;have y:=z7 hS ht (vN hP ht hx).1.ok.a;have z:=z7 hS ht (vN hP ht hx).1.ok.b;unfold uk;rw[y,z];split at a
  .rw[aq ‹_›];exact aR a
  rw[O ‹_›];split at a
  .rw[aq ‹_›];exact aR a
  rw[O ‹_›];split at a
  .rw[aq ‹_›];exact aR a
  cases a
 unfold qY;rw[s];have⟨B,b⟩:=eX (A.a.rd t (A.e1 (w p) t x));rw[<-b]at f⊢;have C:∀u(l:UInt8),eW B u l=eW A.a u l:=fun u l=>AU hA.inv (by rw[b];rfl) (by rw[b];rfl) l;refine hS.C rfl (fun _=>?_) (fun j E=>?_) (fun l F=>?_) (fun u l=>?_) (fun u a=>by show B.I u=[];rw[b];exact hS.off u a)
 .rw[show(A.next (w p) t x).pc=_ from o];exact Cg hP hS ht hx rfl
 .rw[show(A.next (w p) t x).L=_ from q,g];exact JA (hS.cY t ht) j E
 .by_cases e:l=x.loc.toNat
  .subst e;rw[show(B.put t (A.e2 (w p) t x)).jV x.loc.toNat=some (B.nx t) by
    show(P B.co (A.e2 (w p) t x).loc.toNat _ x.loc.toNat).getLast?=_;rw[m,bc,CH];rfl]
   show P M.mem x.loc.toNat u x.loc.toNat=((B.put t (A.e2 (w p) t x)).ev (B.nx t)).val;rw[bc,Am.xK (A:=B) rfl];exact i.val.s
  rw[show(B.put t (A.e2 (w p) t x)).jV l=B.jV l by
   show(P B.co (A.e2 (w p) t x).loc.toNat _ l).getLast?=_;rw[m,bf _ _ e];rfl]
  show P M.mem x.loc.toNat u l=_;rw[bf _ _ e,EI (A':=B.put t _) f rfl (Hx f l),b];exact Mb hS hA _ l F
 rw[AU (A':=B.put t _) f rfl rfl,C];exact hS.I u l
end
theorem NW{p}{A}{M}{t q}{l}(hS:gD p A M)(hA:iB (w p) A)(a:(A.a.gE t l.toNat).head?=some q):gD p ⟨A.run,A.a.dr t l.toNat q⟩ (vB M t l):=by
 have⟨j,b⟩:=Am.l7.1 (F9 (by omega):q∈A.a.gE t l.toNat);have f:(M.I t).find? (fun e=>e.1==l)=some (l,(A.a.ev (t,q)).val):=by rw[Va,hS.I];unfold eW;rw[List.head?_map,a];rfl
 refine⟨hS.pc,hS.cY,fun k g=>?_,fun u k=>?_,fun u c=>?_⟩
 .show P M.mem l.toNat (yP (M.I t) l) k=(A.a.dr t l.toNat q).wv (w p) k (P A.a.co l.toNat (A.a.co l.toNat++[(t,q)]) k).getLast?;by_cases e:k=l.toNat
  .subst e;rw[bc,bc,CH];unfold yP;rw[f];rfl
  rw[bf _ _ e,bf _ _ e];exact hS.mem k g
 .show(P M.I t (tB (M.I t) l) u).filter _=((P A.a.I t ((A.a.I t).erase q) u).filter _).map _;by_cases e:u=t
  .subst e;rw[bc,bc,ZK,hS.I,JO];by_cases e:l=k
   .subst e;rw[aq rfl,aq (by show(A.a.lo (u,q)==l.toNat)=true;simpa using b)];show(eW A.a u l).tail=((A.a.gE u l.toNat).erase q).map _;unfold eW;cases h:A.a.gE u l.toNat with
    |nil=>rw[h]at a;cases a
    |cons i r=>
     obtain rfl:i=q:=by grind
     rw[List.erase_cons_head,nR,List.tail_cons];rfl
   rw[O e,O (by show¬(A.a.lo (u,q)==k.toNat)=true;rw[b];simp[tR,e])];rfl
  rw[bf _ _ e,bf _ _ e];exact hS.I u k
 show P A.a.I t _ u=[]
 by_cases e:u=t
 .have:=hS.off u c
  grind
 rw[bf _ _ e];exact hS.off u c
end
section
inductive gA(p:a8):Ms->Prop
 |start:gA p (iO p)
 |step {M:Ms} {x:Ps} (h:gA p M) (hx:x∈di p M):gA p (fZ p M x)
def EY{p}{t}{ins}(h:p.h[t]? =some ins):bH p t=ins:=by unfold bH;rw[bj,h];rfl
def yU{p}{t}{x}(h:x∈bH p t):t<p.h.length/\p.h[t]? =some (bH p t):=by
 cases e:p.h[t]? with
 |none=>unfold bH at h;rw[bj,e]at h;cases h
 |some ins=>exact⟨(bL.1 e).1,by rw[EY e]⟩
def cO.NF{p}(h:cO p):∀t x,x∈bH p t->ol x/\xH x:=by
 intro t x g;have⟨_,o⟩:=yU g;obtain⟨i,hi,rfl⟩:=iD g;have f:=h.ins _ (cB o) i _ (aI hi);exact⟨f.ok,f.m1,f.m2⟩
def zB{p}(a:cO p)(t):(bH p t).length<=12:=by
 unfold bH;rw[bj];cases e:p.h[t]? with
 |none=>simp
 |some ins=>exact a.len _ (cB e)
section
variable{p:a8}{M:Ms}{x:Ps}
def dW.C(h:dW p M){t}(r:t<p.h.length){f}(w:(M.C t 0).toNat<(f 0).toNat)(i:(f 0).toNat<=(bH p t).length){m}(o:∀l,p.N<=l->m l=0):dW p {qj M t f with mem:=m}:=by
 refine⟨fun u g=>⟨fun j=>?_,(h.off u g).2⟩,fun u ins g=>?_,o,fun u=>?_,h.wT,h.loc⟩
 .show P M.C t f u j=0;rw[bf _ _ (by omega)];exact(h.off u g).1 j
 .show(P M.C t f u 0).toNat<=_;by_cases e:u=t
  .subst e;rw[bc,<-EY g];exact i
  rw[bf _ _ e];exact h.pc u ins g
 show(M.I u).length<=(P M.C t f u 0).toNat;have:=h.len u;by_cases e:u=t
 .subst e;rw[bc];omega
 rw[bf _ _ e];omega
def ZH{v:UInt8}{n}(h:v.toNat<n)(a:n<=12):v.toNat<(v+1).toNat/\(v+1).toNat<=n:=by
 rw[BK rfl (by omega)];omega
def yR{t}{i}(h:nU p M t=some i):t<p.h.length/\(M.C t 0).toNat<(bH p t).length/\(bH p t)[(M.C t 0).toNat]? =some i:=
 ⟨(yU (cB h)).1,(bL.1 h).1,h⟩
def Bd(b:cO p){t}{i}(h:nU p M t=some i):Em p.N ((bH p t).length-1-(M.C t 0).toNat) i:=by
 have⟨_,c,a⟩:=yR h;exact b.ins _ (cB (yU (cB a)).2) _ _ a
def dW.exec(H:cO p)(h:dW p M){t}{i}(hi:nU p M t=some i):dW p (iX M t i):=by
 have⟨w,J,_⟩:=yR hi;have r:=Bd H hi;have y:=zB H t;have⟨C,E⟩:=ZH J y;unfold iX;split
 .exact h.C w (f:=sJ i (M.C t) _) C E h.mem
 split
 .have:=h.C w (f:=P (M.C t) 0 (M.C t 0+1)) (by rw[bc];exact C) (by rw[bc];exact E) h.mem;refine⟨fun u I=>⟨(this.off u I).1,?_⟩,this.pc,this.mem,fun u=>?_,fun u=>?_,fun u e g=>?_⟩
  .show P M.I t _ u=[]
   rw[bf _ _ (by omega)];exact(h.off u I).2
  .show(P M.I t _ u).length<=(P M.C t _ u 0).toNat;by_cases e:u=t
   .subst e;rw[bc,bc,bc,ag1];have:=h.len u;omega
   rw[bf _ _ e,bf _ _ e];exact h.len u
  .show(P M.I t _ u).Pairwise _;by_cases e:u=t
   .subst e;rw[bc];exact abR (h.wT u)
   rw[bf _ _ e];exact h.wT u
  have g:e∈P M.I t _ u:=g;by_cases e1:u=t
  .subst e1;rw[bc]at g;obtain g|rfl:=YO g
   .exact h.loc u e g
   exact r.loc (by simp[*])
  rw[bf _ _ e1]at g;exact h.loc u e g
 split
 .rename_i F;have e1:(M.C t 0).toNat<(l9 i (M.C t) 0).toNat/\(l9 i (M.C t) 0).toNat<=(bH p t).length:=by
   unfold l9;split
   .rw[bc];omega
   split
   .rename_i L;rw[bc];have N:=(r.f8 L).2;split
    .have e2:(M.C t 0+i.skip).toNat=(M.C t 0).toNat+i.skip.toNat:=by rw[IU];omega
     rw[BK e2 (by omega)];omega
    omega
   split
   .rw[bc];omega
   unfold oB at F
   grind
  exact h.C w e1.1 e1.2 h.mem
 rename_i F;have:i.op=4\/i.op=5\/i.op=6:=by
  obtain o|o|o|o|o|o:=iY r.ok.qf r.ok.iY
  .grind
  .grind
  .exact o
  all_goals exact absurd (by unfold oB;rw[o];rfl) F
 have O:=r.loc (by grind);exact h.C w (f:=sJ i (M.C t) _) C E fun l y=>by rw[bf _ _ (by omega)];exact h.mem l y
def dW.drain(h:dW p M){t}{l v}(g:(l,v)∈M.I t):dW p (vB M t l):=by
 have i:(tB (M.I t) l).Sublist (M.I t):=List.eraseP_sublist;have r:=h.loc t _ g;refine⟨fun u o=>⟨(h.off u o).1,?_⟩,h.pc,fun k w=>?_,fun u=>?_,fun u=>?_,fun u e f=>?_⟩
 .show P M.I t _ u=[]
  by_cases e:u=t
  .subst e;rw[(h.off u o).2]at g;cases g
  rw[bf _ _ e];exact(h.off u o).2
 .show P M.mem l.toNat _ k=0;have r:l.toNat<p.N:=r;rw[bf _ _ (by omega)];exact h.mem k w
 .show(P M.I t _ u).length<=_;by_cases e:u=t
  .subst e;rw[bc];exact aO i.length_le (h.len u)
  rw[bf _ _ e];exact h.len u
 .show(P M.I t _ u).Pairwise _;by_cases e:u=t
  .subst e;rw[bc];exact(h.wT u).sublist i
  rw[bf _ _ e];exact h.wT u
 have f:e∈P M.I t _ u:=f;by_cases e1:u=t
 .subst e1;rw[bc]at f;exact h.loc u e (i.subset f)
 rw[bf _ _ e1]at f;exact h.loc u e f
def DL{t}(h:mX p M t=true):∃i,nU p M t=some i/\(i.op=4\/i.op=5\/i.op=6\/i.op=7/\(i.mode=3\/i.mode=5)->M.I t=[]):=by
 unfold mX at h
 grind
def dW.step(o:cO p)(h:dW p M)(r:x∈di p M):dW p (fZ p M x):=by
 have⟨w,f⟩:=(tX p o.iE M x).1 r;unfold fZ;split
 .rename_i g;rw[aq g]at f;obtain⟨v,u⟩:=f;exact h.drain u
 rename_i g;rw[O g]at f;have⟨i,e,_⟩:=DL f.2;rw[e];exact h.exec o e
def YB(a:cO p):dW p (iO p):=
 ⟨fun _ _=>⟨fun _=>rfl,rfl⟩,fun _ _ _=>aQ _,fun l b=>by show p.init.getD l 0=0;rw[bj,od (by rw[a.init];exact b)];rfl,fun _=>aQ _,fun _=>List.Pairwise.nil,fun _ _ h=>(sV h).elim⟩
def gA.ok(f:cO p)(h:gA p M):dW p M:=by
 induction h with
 |start=>exact YB f
 |step _ g i=>exact i.step f g
end
abbrev Gd(p:a8):Mc->Mc->Prop:=Mv (bH p) p.h.length (w p)
abbrev Ho(p:a8):Mc->Prop:=nj (bH p) p.h.length (w p) start
section
variable{p:a8}{A A':Mc}{M:Ms}
def ag0(a:cO p)(h:iB (w p) A)(b:Gd p A A'):iB (w p) A':=Mv.ok (fun t x c=>(a.NF t x c).2) h b
def abg(f:cO p)(j:iB (w p) A)(e:gD p A M)(z:Gd p A A'):∃x,x∈di p M/\gD p A' (fZ p M x):=by
 have ex:∀{t:Nat}{i:Ins},t<p.h.length->(bH p t)[(A.run t).pc]? =some i->(i.op=4\/i.op=5\/i.op=6\/i.op=7/\(i.mode=3\/i.mode=5)->A.a.I t=[])->gD p A' (iX M t i)->∃x,x∈di p M/\gD p A' (fZ p M x):=by
  intro t i a b g h;have n:(UInt8.ofNat t).toNat=t:=by have:=f.iE;rw[pw];omega
  have C:=ac2 e a b;refine⟨⟨UInt8.ofNat t,false,0⟩,(tX p f.iE M _).2 ⟨by grind,?_⟩,?_⟩
  .rw[O (show¬false=true by decide),n];refine⟨rfl,?_⟩;unfold mX;rw[C];simp only[];split
   .rename_i m;rw[(e.empty t).2 (g m)];rfl
   rfl
  unfold fZ
  grind
 cases z with
 |@load t x a b c=>exact ex a b (fun h=>by grind) (PB f e j a b c)
 |@store t x a b c=>exact ex a b (fun h=>by grind) (Sa f e j a b c)
 |@dP t x u a b c g o=>
  have E:(A.a.rd t (A.e1 (w p) t x)).Inv (w p):=by
   have⟨m,_⟩:=tC (r:=A.run t) (v:=A.dM (w p) t x) c;exact Am.Bq j.inv m.kind (by
    rw[show(A.e1 (w p) t x).loc=x.loc from m.loc];exact m.val) fun _=>g
  exact ex a b (fun _=>g) (Ry f e j a b c g o E)
 |@B7 t x a b c g o=>exact ex a b (fun _=>g) (RG f e j a b c g o)
 |@Cb t x a b c g=>exact ex a b (fun h=>g (by grind)) (Qw f e j a b c)
 |@quiet t x a b c=>exact ex a b (fun h=>by grind) (MP f e j a b c)
 |@drain t l q y=>
  have⟨s,F⟩:=Am.l7.1 (F9 (by omega):q∈A.a.gE t l);rw[<-F]at y⊢;have a:t<p.h.length:=by
   apply ki;intro H;rw[e.off t (by omega)]at s;cases s
  have n:(UInt8.ofNat t).toNat=t:=by have:=f.iE;rw[pw];omega
  refine⟨⟨UInt8.ofNat t,true,(A.a.ev (t,q)).loc⟩,(tX p f.iE M _).2 ⟨by grind,?_⟩,?_⟩
  .have I:=e.I t (A.a.ev (t,q)).loc;have m:((A.a.ev (t,q)).loc,(A.a.ev (t,q)).val)∈eW A.a t (A.a.ev (t,q)).loc:=bX.2 ⟨q,Am.l7.2 ⟨s,rfl⟩,rfl⟩
   grind
  unfold fZ;simp only[n];exact NW e j y
def gD.Z5(C:cO p)(E:iB (w p) A)(y:gD p A M){x}(Q:x∈di p M):∃A',Gd p A A'/\gD p A' (fZ p M x):=by
 have⟨g,F⟩:=(tX p C.iE M x).1 Q;unfold fZ;have⟨t,R⟩:=eX x.t.toNat;rw[<-R]at g F⊢;split
 .rename_i L;rw[aq L]at F;obtain⟨v,N⟩:=F;have W:=y.I t x.l;have T:(x.l,v)∈eW A.a t x.l:=by grind
  have⟨X,P,_⟩:=bX.1 T;cases I:A.a.gE t x.l.toNat with
  |nil=>rw[I]at P;cases P
  |cons q r=>exact⟨_,.drain (by rw[I];rfl),NW y E (by grind)⟩
 rename_i L;rw[O L]at F;have⟨i,hi,H⟩:=DL F.2;have N:=Bd C hi;have o:(bH p t)[(A.run t).pc]? =some i:=by rw[<-y.pc t g];exact hi
 rw[hi];obtain f|f|f|f|f|f:=iY N.ok.qf N.ok.iY
 .exact⟨_,.load g o f,PB C y E g o f⟩
 .exact⟨_,.store g o f,Sa C y E g o f⟩
 .have H:=(y.empty t).1 (H (by grind));cases J:my (A.run t) i (A.dM (w p) t i)with
  |none=>exact⟨_,.B7 g o f H J,RG C y E g o f H J⟩
  |some u=>
   have I:Gd p A _:= .dP g o f H J;have⟨F,_⟩:=tC (r:=A.run t) (v:=A.dM (w p) t i) f;exact⟨_,I,Ry C y E g o f H J (Am.Bq E.inv F.kind (by
    rw[show(A.e1 (w p) t i).loc=i.loc from F.loc];exact F.val) fun _=>H)⟩
 .exact⟨_,.Cb g o f fun h=>(y.empty t).1 (H (by grind)),Qw C y E g o f⟩
 .exact⟨_,.quiet g o (.inl f),MP C y E g o (.inl f)⟩
 exact⟨_,.quiet g o (.inr f),MP C y E g o (.inr f)⟩
def QE:gD p start (iO p):=⟨fun _ _=>rfl,fun _ _ _ _=>rfl,fun _ _=>rfl,fun _ _=>rfl,fun _ _=>rfl⟩
def El(a:cO p)(h:Ho p A):iB (w p) A:=by
 induction h with
 |refl=>exact Nc _
 |step _ b c=>exact ag0 a c b
def abB(a:cO p)(h:Ho p A):∃M,gA p M/\gD p A M:=by
 induction h with
 |refl=>exact⟨_,.start,QE⟩
 |step h b c=>
  obtain⟨M,e,f⟩:=c;have⟨x,g,i⟩:=abg a (El a h) f b;exact⟨_,e.step g,i⟩
def gA.au(f:cO p)(h:gA p M):∃A,Ho p A/\gD p A M:=by
 induction h with
 |start=>exact⟨_,.refl,QE⟩
 |step _ i o=>
  obtain⟨A,g,r⟩:=o;have⟨A',u,w⟩:=r.Z5 f (El f g) i;exact⟨A',g.step u,w⟩
def agD(p:a8)(A:Mc):Prop:=∀t,t<p.h.length->(bH p t).length<=(A.run t).pc/\A.a.I t=[]
def PJ(a:cO p)(b:gD p A M):di p M=[]↔agD p A:=by
 constructor
 .intro h t c;have:(UInt8.ofNat t).toNat=t:=by have:=a.iE;rw[pw];omega
  have j:M.I t=[]:=yB.2 fun e n=>by
   have:=(tX p a.iE M ⟨UInt8.ofNat t,true,e.1⟩).2 ⟨by grind,by grind⟩
   grind
  refine⟨?_,(b.empty t).1 j⟩;apply ki;intro o;have f:nU p M t=some ((bH p t)[(M.C t 0).toNat]'(by rw[b.pc t c];omega)):=aI _;have:=(tX p a.iE M ⟨UInt8.ofNat t,false,0⟩).2 ⟨by grind,by
   unfold mX
   grind⟩
  grind
 intro h;refine yB.2 fun x l=>?_;have⟨c,g⟩:=(tX p a.iE M x).1 l;have⟨q,m⟩:=h _ c;have:=(b.empty _).2 m;split at g
 .grind
 have⟨i,f,_⟩:=DL g.2;have:=(yR f).2.1;rw[b.pc _ c]at this;omega
end
end
def ov(M:Ms):Ms:={M with I:=fun _=>[]}
def TM(M){i}(c:i<142):aB (ov M) i=if i<42 then aB M i else 0:=by
 unfold aB ov ir;by_cases a:i<36
 .grind
 by_cases b:i<42
 .grind
 rw[O a,O b,O b];simp_all
section
attribute [local irreducible] Code.wp wpList Oper.wp wpQuiet
def Lx{P}{ops}{w0}{Q}{a}{rest}{o}(c:Region.wanted o (yielded ops a.tmps)=true)(ty)(x)(e:o.op= .load ty x)
 (b off)(L)(f:a.eval x= .pointer (some ⟨b,off,none⟩))(i:w0.rangeAt b off L)(l:b<w0.1.size)(d)(m:P.underlying ty=some d)(q:d.isRow=true)(r:(P.info? ty).map (·.size)=some L.length)
 (h:Bl.iQ P ops w0 Q rest (a.put o.dst L.toArray)):Bl.iQ P ops w0 Q (o::rest) a:=
 Bl.dK c (fun W s=>by
   unfold execOp;simp only[e,f,Instr.loadAt,Instr.sureAddr,eD,eZ,eY,(qu (P:=P) W b off ty L d (fun j v u=>(s.C (p:=⟨b,off+j,none⟩) l).t (i j v u)) m q r)]) h
def Fe{P}{o}{a}{t}(x y)(f:o.op= .store t x y)(b)(C D)(h:a.eval x= .pointer b)(i:a.eval y= .agg D)
 (j:(P.info? t).map (·.size)=some D.size)(l:C.size=D.size)(m:D.all (·.oneCell')=true):Bl.yc P o a (.cells C t) (.cells D t) b:=by
 intro W c;refine⟨W.setRow b D,?_,⟨rfl,rfl,rfl,by simp,fun k _ p=>Gu W b k _ (fun e=>p (by rw[e]))⟩,Ed W b C _ t (0,0) c⟩;unfold execOp;simp only[f,h,i,Instr.storeAt,Instr.sureAddr,eD,eZ,eY,(ED (P:=P) W b t t C D c j l m)]
def EX{P}{t}{C:Array Value}(c:∀w,(zeroValue t).run P w= .ok C w)(e:¬C=#[])(ρ)(dst)(ty)(pos)(after)(W):
 (execOp ρ {dst,op:= .alloc t,type:=ty,pos,after,guard:=none}).run P W= .ok (.value (.pointer W.1.size)) (W.alloc (.cells C t)):=by
 simp[execOp,go_sem,c]
def yI(w)(t1 t2 t3){n1 n2 n3}{g1 g2 g3}{G1 G2 G3}(e:G1=J n1 g1)(f:G2=J n2 g2)(h:G3=J n3 g3):∃c,c=((w.alloc (.cells G1 t1)).alloc (.cells G2 t2)).alloc (.cells G3 t3)/\Below w.1.size w c/\aj c w.1.size t1 n1 g1/\aj c (w.1.size+1) t2 n2 g2/\aj c (w.1.size+2) t3 n3 g3/\c.1.size=w.1.size+3:=by
 refine⟨_,rfl,((ba w _).alloc (by simp) _).alloc (by simp;omega) _,((aj.dq w t1 n1 g1 G1 e).alloc _).alloc _,?_,?_,by simp⟩
 .have:=(aj.dq (w.alloc (.cells G1 t1)) t2 n2 g2 G2 f).alloc (.cells G3 t3);simp_all
 have:=aj.dq ((w.alloc (.cells G1 t1)).alloc (.cells G2 t2)) t3 n3 g3 G3 h;simp_all
def bT{n}{g}{G}(h:G=J n g)(c:0<n):¬G=#[]:=by intro e;have:=cg Array.size e;rw[h,dF]at this;simp at this;omega
def Kg(M){t}(c:t<4):(J 9 fun i=>X (aB M) (t*9+i))=J 9 (cJ (M.C t)):=gP fun i e=>by unfold X cJ;rw[x7 t 9,nA M c e]
def Bu(w):(zeroValue 36).run prog w= .ok (aV ⟨0,0,0,⟨false,0⟩,⟨false,0⟩,0,0,0⟩) w:=by kernel_rfl
def Ic{W}{g}{p}(h:eE W g p){t k}{x}(m:(bH p t)[k]? =some x):∃c i j f co l,g 3= .slice (some ⟨c,i,none⟩) p.h.length j/\c<W.1.size/\W.cell? ⟨c,i+t,none⟩=some (.slice (some ⟨f,co,none⟩) (bH p t).length l)/\f<W.1.size/\W.rangeAt f (co+k*10) (aV x).toList:=by
 have⟨E,o⟩:=yU (cB m);have⟨T,j,e,q⟩:=h.h;obtain⟨c,i,rfl,r,s⟩:=q (by omega);have⟨A,l,u,v,_⟩:=s t _ o;obtain⟨f,co,rfl,z,C⟩:=v (by grind);exact⟨c,i,j,f,co,l,e,r,u,z,BS (C k x m)⟩
def MG{H}{P}{k}{R}{W W'}{b n}{D:DataW H}(h:W.ownsMap P k R b n D)(e:Below W.1.size W W'):W'.ownsMap P k R b n D:=by
 have f:=h.lt;obtain⟨es,c,i,j⟩:=h;exact⟨es,c,(e.block b f).t i,j⟩
def Vc{P}{ops}{I}{Q}{R}{a}{rest}{o}(v)(j:Bo.gY o=true)(l:Region.wanted o (yielded ops a.tmps)=true)(p:∀W z,R W->R (W.alloc z))(m:∀W,I W->R W->(execOp a.eval o).run P W= .ok (.value v) W)
 (h:Bo.walk P ops I none Q rest R (a.put o.dst v)):Bo.walk P ops I none Q (o::rest) R a:=
 Bo.ym (fun u c=>u=v/\c=R) j l (fun _ _ ⟨_,e⟩=>by grind) ⟨v,R,rfl,rfl⟩ (fun W f i=>by rw[m W f i];exact⟨R,⟨rfl,rfl⟩,f,i,Bo.Kept.none⟩) (fun u c ⟨e1,e2⟩=>by grind)
section
variable{P:Program}{ops:Array Oper}{Q:Exit->Act->World->Prop}{rest:List Oper}{a:Act}{w:World}{d:Option Tmp}{ty tp:TypeId}{x y:Operand}{ps:String}{af:Array Edge}{b n:Nat}{t:TypeId}{g:Nat->Value}{G:Array Value}
def br(o m)(c:aj w b t n g)(e:G=J m fun i=>g (o+i))(f:o+m<=n){dd}(j:P.underlying ty=some dd)(l:dd.isRow=true)(p:(P.info? ty).map (·.size)=some m)(q:a.eval x= .pointer (some ⟨b,o,none⟩))
 (h:wpList P ops Q rest (a.put d G) w):wpList P ops Q (Oper.mk d (.load ty x) tp ps af none::rest) a w:=by
 subst e;exact nF rfl ty x rfl b o m n t g q c f dd j l p h
def yb(o m)(f g')(e:aj w b t n g)(j:G=J m f)(l:o+m<=n)(p:(P.info? ty).map (·.size)=some m)(q:∀i,i<m->(f i).oneCell'=true)(r:∀i,i<n->bm g o m f i=g' i)(s:a.eval x= .pointer (some ⟨b,o,none⟩))(u:a.eval y= .agg G)
 (h:∀c,aj c b t n g'->w.grownBy c (some b)->wpList P ops Q rest (a.put d undef) c):wpList P ops Q (Oper.mk d (.store ty x y) tp ps af none::rest) a w:=
 eP rfl ty x y rfl b o m n t g f s (by rw[u,j]) e l p q fun c s u=>h c (s.congr r) u
def jS(f)(e:aj w b t n g)(j:G=J n f)(l:(P.info? ty).map (·.size)=some n)(m:∀i,i<n->(f i).oneCell'=true)(o:a.eval x= .pointer b)(p:a.eval y= .agg G)
 (h:∀c,aj c b t n f->w.grownBy c (some b)->wpList P ops Q rest (a.put d undef) c):wpList P ops Q (Oper.mk d (.store ty x y) tp ps af none::rest) a w:=
 yb 0 n f f e j (by omega) l m (fun i c=>by unfold bm;rw[aq ⟨aQ _,by omega⟩,ez]) o p h
def mh{Z}(f)(e:G=J n f)(j:Z.size=n)(l:(P.info? ty).map (·.size)=some n)(m:∀i,i<n->(f i).oneCell'=true)(o:a.eval x= .pointer w.1.size)(p:a.eval y= .agg G)
 (h:∀c,aj c w.1.size t n f->Below w w c->wpList P ops Q rest (a.put d undef) c):wpList P ops Q (Oper.mk d (.store ty x y) tp ps af none::rest) a (w.alloc (.cells Z t)):=by
 subst j;exact jS f (aj.dq w t Z.size _ Z (uR _)) e l m o p fun c q r=>h c q (fJ r)
def kI(o)(v)(g')(e:aj w b t n g)(f:o<n)(j:(P.info? ty).map (·.size)=some 1)(l:v.oneCell'=true)(m:∀i,i<n->aU g o v i=g' i)(p:a.eval x= .pointer (some ⟨b,o,none⟩))(q:a.eval y=v)
 (h:∀c,aj c b t n g'->w.grownBy c (some b)->wpList P ops Q rest (a.put d undef) c):wpList P ops Q (Oper.mk d (.store ty x y) tp ps af none::rest) a w:=
 wpList_store_one rfl ty x y rfl b o n t g v p q e f j l fun c r s=>h c (r.congr m) s
def ahd{gd}{xs}(h:wpList P ops Q (Oper.mk d (.build ty xs) tp ps af gd::rest) a w):wpList P ops Q (Oper.mk d (.build ty xs) tp ps af gd::rest) a w:=h
def uj{xs}(vs)(v)(c:(Instr.build ty vs.toArray).run P w= .ok v w)(e:xs.toList.map (fun p=>(p.1,a.eval p.2))=vs)(h:wpList P ops Q rest (a.put d v) w):wpList P ops Q (Oper.mk d (.build ty xs) tp ps af none::rest) a w:=by
 refine BG rfl ty xs rfl v ?_ h;subst e;unfold execOp;rw[<-xY,Array.toArray_toList]at c;simp_all
def Bp{C}{K}{c:Option (Tmp×Bool)}(f:Region.wanted (Oper.mk d (.load ty x) tp ps af c) (yielded ops a.tmps)=true)(o m)(j:∀e,C e->aj e b t n g)(e:G=J m fun i=>g (o+i))(l:o+m<=n){dd}(p:P.underlying ty=some dd)(q:dd.isRow=true)(r:(P.info? ty).map (·.size)=some m)(r:a.eval x= .pointer (some ⟨b,o,none⟩))
 (h:wpQuiet P ops C K rest (a.put d G)):wpQuiet P ops C K (Oper.mk d (.load ty x) tp ps af c::rest) a:=
 Cd f fun K s=>⟨_,fun w u=>by
  unfold Oper.quietAt execOp;simp only[r,Instr.loadAt,Instr.sureAddr,eD,eZ,eY,qu w b o ty _ dd ((j w u).range o m l) p q (by grind)];exact⟨rfl,rfl⟩,s _ (by subst e;exact h)⟩
def ahc{w0}{K}{gd}(h:Bl.iQ P ops w0 K (Oper.mk d (.load ty x) tp ps af gd::rest) a):Bl.iQ P ops w0 K (Oper.mk d (.load ty x) tp ps af gd::rest) a:=h
def li{w0}{K}(o m)(c:aj w0 b t n g)(e:G=J m fun i=>g (o+i))(f:o+m<=n){dd}(j:P.underlying ty=some dd)(l:dd.isRow=true)(p:(P.info? ty).map (·.size)=some m)(q:a.eval x= .pointer (some ⟨b,o,none⟩))
 (h:Bl.iQ P ops w0 K rest (a.put d G)):Bl.iQ P ops w0 K (Oper.mk d (.load ty x) tp ps af none::rest) a:=by
 subst e;exact NE rfl ty x rfl b o m n t g q c f dd j l p h
def J1{w0}{K}{R}(o m)(c:aj w0 b t n g)(e:G=J m fun i=>g (o+i))(f:o+m<=n){dd}(j:P.underlying ty=some dd)(l:dd.isRow=true)(p:(P.info? ty).map (·.size)=some m)(q:a.eval x= .pointer (some ⟨b,o,none⟩))
 (h:Bo.walk P ops (jY w0) none K rest R (a.put d G)):Bo.walk P ops (jY w0) none K (Oper.mk d (.load ty x) tp ps af none::rest) R a:=by
 subst e;exact Jq rfl rfl ty x rfl b o m n t g q c f dd j l p h
def AP(h:aj w b t n g):∀c,(∃p:Regrown,c=Go.Sort.grow (redrawn w p.d) p.os)->aj c b t n g:=by
 rintro c ⟨p,rfl⟩;exact h.Z (jO w p.d p.os) h.lt
end
def si(w)(t1 t2){n1 n2}{g1 g2}{G1 G2}(e:G1=J n1 g1)(f:G2=J n2 g2):∃c,c=(w.alloc (.cells G1 t1)).alloc (.cells G2 t2)/\Below w.1.size w c/\aj c w.1.size t1 n1 g1/\aj c (w.1.size+1) t2 n2 g2/\c.1.size=w.1.size+2:=by
 refine⟨_,rfl,(ba w _).alloc (by simp) _,(aj.dq w t1 n1 g1 G1 e).alloc _,?_,by simp⟩;have:=aj.dq (w.alloc (.cells G1 t1)) t2 n2 g2 G2 f;simp_all
section
variable{W:World}{b:Nat}{ty:TypeId}{M:Ms}
def Yv(h:aj W b ty 142 (X (aB M))){t j}(c:t<4)(e:j<9):W.cell? ⟨b,t*9+j,none⟩=some (.int .u8 (Y (M.C t j))):=by
 rw[h.C _ (by omega)];unfold X;rw[x7,nA M c e]
def Kz(h:aj W b ty 142 (X (aB M))){t}(c:t<4):W.cell? ⟨b,t*9,none⟩=some (.int .u8 (Y (M.C t 0))):=Yv h c (j:=0) (dr rfl)
def Qi(h:aj W b ty 142 (X (aB M))){l}(c:l<6):W.cell? ⟨b,36+l,none⟩=some (.int .u8 (Y (M.mem l))):=by
 rw[h.C _ (by omega)];unfold X;rw[ox M c]
def AY(h:aj W b ty 142 (X (aB M))){t}(c:t<4)(e:(M.I t).length<256):W.cell? ⟨b,138+t,none⟩=some (.int .u8 ((M.I t).length:Int)):=by
 rw[h.C _ (by omega)];unfold X;rw[oS M c,qD _ e]
def DU(h:aj W b ty 142 (X (aB M))){t i}(c:t<4)(e:i<12):W.cell? ⟨b,42+t*24+i*2,none⟩=some (.int .u8 (Y ((M.I t).getD i (0,0)).1)):=by
 rw[h.C _ (by omega),x7 t];unfold X;rw[mD M c (by omega)];unfold ir
 grind
def Zg(h:aj W b ty 142 (X (aB M))){t i}(c:t<4)(e:i<12):W.cell? ⟨b,42+t*24+i*2+1,none⟩=some (.int .u8 (Y ((M.I t).getD i (0,0)).2)):=by
 rw[show 42+t*24+i*2+1=42+24*t+(i*2+1) by omega,h.C _ (by omega)];unfold X;rw[mD M c (by omega)];unfold ir
 grind
end
def lg(s)(i):(X s i).oneCell'=true:=rfl
def Hl(f)(i):(cJ f i).oneCell'=true:=rfl
def ach(f h)(w):(Instr.build 80 #[(0,.agg (J 36 f)),(1,.agg (J 6 h))]).run prog w= .ok (J 142 fun i=>if i<36 then f i else if i<42 then h (i-36)else .int .u8 0) w:=by kernel_rfl
def R4(M)(w):Calls prog 138 #[(J 142 (X (aB M)))] w (Rs (J 142 (X (aB (ov M)))) w):=by
 have A:=ql;have⟨F,f⟩:=eX (J 142 (X (aB M)));have⟨H,h⟩:=eX (J 142 (X fun _=>0));have⟨C,l⟩:=eX (J 142 (X (aB (ov M))));have⟨m,q,r,s,u,_⟩:=si w 80 80 f h;rw[<-f,<-l];rw[<-h]at A;have:=bT f (dr rfl);have:=bT h (dr rfl);have⟨GT,o⟩:=eX (J 36 fun i=>X (aB M) (0+i));have⟨v,p⟩:=eX (J 6 fun i=>X (aB M) (36+i));have z:(Instr.build 80 #[(0,.agg GT),(1,.agg v)]).run prog m= .ok C m:=by
  rw[o,p,l,ach];refine cg (fun G=>Result.ok (Value.agg G) m) (gP fun i E=>?_);unfold X;rw[TM M E];by_cases a:i<36
  .rw[aq a,aq (by omega),cK]
  by_cases b:i<42
  .rw[O a,aq b,aq b,show 36+(i-36)=i by omega]
  rw[O a,O b,O b];rfl
 have c:=jR r s u o p l z q;clear r s u o p l z f h q;go_enter func138,ntmps138
 go_upto_region 1 with fail
 rw[<-c.H]
 go_wp2_with (first|(refine br 0 36 c.b c.d (dr rfl) Ml rfl J7 rfl ?_)|(refine br 36 6 c.b c.e (dr rfl) BC rfl xx rfl ?_)|(refine uj [(0,.agg GT),(1,.agg v)] _ c.g rfl ?_)|(refine jS (X (aB (ov M))) c.c c.f cQ (fun i _=>lg _ _) rfl rfl ?_;intro l f h))
 refine bK (mT rfl _ f _ rfl dN rfl cQ) rfl ?_;exact⟨by rw[c.f],(c.a.b h c.a.size (fun j e=>by cases e;omega))⟩
end
def j6(p:a8)(M:Ms)(k:Nat):List Nat:=(List.range k).filter fun t=>decide ((M.C t 0).toNat<(bH p t).length)
def ad8(p)(M)(k):j6 p M (k+1)=if(M.C k 0).toNat<(bH p k)then j6 p M k++[k]else j6 p M k:=by
 unfold j6;rw[jh,oh,LK,List.filter_nil]
 grind
def RD(p)(M)(k):(j6 p M k)<=k:=aO (wM _ _) (by simp)
def V4{p}{M}{k t}:t∈j6 p M k↔t<k/\(M.C t 0).toNat<(bH p t):=by unfold j6;simp
section
attribute [local irreducible] Code.wp wpList Oper.wp wpQuiet
def DS{W}{g}{p}(h:eE W g p):∃T c,g 3= .slice T p.h c/\∀t,t<p.h.length->∃b a A f,T=some ⟨b,a,none⟩/\b<W/\W.cell? ⟨b,a+t,none⟩=some (.slice A (bH p t) f):=by
 have⟨T,c,e,j⟩:=h.h;refine⟨T,c,e,fun t i=>?_⟩;have⟨b,a,e2,l,m⟩:=j (by omega);have⟨A,f,n,_⟩:=m t _ (aI i);exact⟨b,a,A,f,e2,l,by rw[n];unfold bH;rw[bj,aI i];rfl⟩
def adZ(p:a8)(g:Nat->Value)(M:Ms)(w:World)(o:eE w g p)(H:p.h.length<=4)(q:∀t,(bH p t).length<=12):
 Calls prog 226 #[(J 10 g),(J 142 (X (aB M)))] w fun e y=>∃v,e= .returned v/\y.ownsRow w.1.size 3 1 v (j6 p M p.h.length).length (nums (j6 p M p.h))/\Below w w y:=by
 have⟨ah,c⟩:=eX (J 10 g);have⟨ai,f⟩:=eX (J 142 (X (aB M)));have⟨r,s,u,x,C,E⟩:=si w 29 80 c f;rw[<-c,<-f];have:=bT c (dr rfl);have:=bT f (dr rfl);have⟨T,aj,l,F⟩:=DS o;have⟨n,m⟩:=eX p.h.length;rw[<-m]at H l⊢;have I:=(x.C 3 (dr rfl)).t (by rw[l]);have⟨N,P,Q,R,W⟩:=eQ zr;have b:=dH u C q F E m s;clear u x C q F E s l o c f m;go_enter func226,ntmps226
 go_upto_region 1 with fail
 rw[<-b.G]
 go_wp2_with fail
 clear I
 go_loopw [5,11] (fun c i wr=>∃k,k<=n/\i= .int .i64 k/\wr.ownsRow r 3 1 c (j6 p M k) (nums (j6 p M k))/\Below r r wr) (fun _ i _=>n-(intOf i).toNat)
 case atStart=>exact⟨0,aQ _,rfl,gI _ _ _ _,aP _ _⟩
 obtain⟨k,ak,rfl,l,f⟩:=hrel;by_cases C:k<n
 .obtain⟨E,F,A,al,rfl,I,s⟩:=b.d k (by rw[<-b.f];exact C);have u:=b.a.t (f.m b.a.size);have aa:=(u.C (p:=⟨E,F+k,none⟩) I).t s;have cs:wr.cell? ⟨w+1,k*9,none⟩=some (.int .u8 (Y (M.C k 0))):=Kz (b.b.Z f b.b.lt) (by omega);have am:(k:Int)<n:=by omega
  have:(k:Int)<4:=by omega
  have:¬(k:Int)<0:=by omega
  have:¬(4:Int)<=k:=by omega
  have:¬(n:Int)<=k:=by omega
  have ab:=b.c k;have ad:=RD p M k;have⟨z,m⟩:=eX (Y (M.C k 0));rw[<-m]at cs;have:0<=z:=by rw[m];exact iW _
  have:z<256:=by rw[m];exact pC _
  have:IntKind.i64.wrap z=z:=gw _ (by omega);have o:=ad8 p M k;have⟨L,x⟩:=eX (j6 p M k);rw[<-x]at o l ad;have⟨ae,q⟩:=eX (bH p k);rw[<-q]at aa ab;have af:=f.size;by_cases h:z<(ae:Int)
  .rw[aq (by rw[m,q]at h;unfold Y at h;omega)]at o;have c:=aD l f o;clear l f o u s x q m
   go_wp2_with (at_builtin;refine qJ _ rfl _ _ 65 rfl r 3 N (.int .i64 0) 1 8 underlying65 P Q R W rfl (dr rfl) _ _ _ rfl (c.a.alloc _) wr 1 1 [.int .i64 k] rfl rfl (kN _ _ _) (by simp[Value.oneCell']) (by unfold maxLen;omega) (by omega) (by simp;omega) ?_;intro an ao ap ag ar)
   refine⟨⟨k+1,by omega,by go_num,?_,(c.b.alloc af _).b ag (by simp;omega) (fun j e=>(c.a.lt j e).1)⟩,by simp[intOf];omega⟩;rw[c.C,dc,pG];omega
  rw[O (by rw[m,q]at h;unfold Y at h;omega)]at o;have c:=aD l f o;clear l f o u s x q m;go_wp2;exact⟨⟨k+1,by omega,by go_num,by rw[c.C];exact c.a,c.b⟩,by simp[intOf];omega⟩
 obtain rfl:k=n:=by omega
 have:¬(k:Int)<k:=by omega
 have c:=aA l (b.a.t (f.m b.a.size));clear l f;go_wp2;go_ret;refine⟨_,rfl,?_,c.B⟩;rw[b.f]at c⊢;obtain⟨a,h|⟨f,l,m,o,s,q⟩⟩:=c.a
 .exact⟨a,.inl h⟩
 exact⟨a,.inr ⟨f,l,m,o,by have:=b.a.size;omega,q⟩⟩
def Yp{P}{t}{n}(l:Fl.flatK P 5 t=some (List.replicate n (some .u8)))(a:P.keyTypeAt 5 t=true)(o:(match P.underlying t with|some (.array _ _)|some (.struct _)=>true|_=>false)=true)(s:P.cellsOf t=n)(f h:Nat->UInt8):
 ∃c:Bool,(c=true↔∀i,i<n->f i=h i)/\∀w,(binOp .eql t (J n (X f)) (J n (X h))).run P w= .ok c w/\(binOp .neq t (J n (X f)) (J n (X h))).run P w= .ok (.bool !c) w:=by
 have g:=fun z:Nat->UInt8=>Fl.EN (List.replicate n (some .u8)) (X z) (fun i=> .int .u8 (Y (z i))) (fun i k a=>by
  have:=(Ht.1 (cB a)).2;subst this;exact xn _)
 simp only[SC]at g;have p:J n (X f)=J n (X h)↔∀i,i<n->f i=h i:=⟨fun e i j=>by have:=FW e i j;unfold X at this;injection this with _ this;exact lQ.1 this,fun e=>gP fun i j=>by unfold X;rw[e i j]⟩
 refine⟨decide (∀i,i<n->f i=h i),by simp,fun w=>?_⟩;have⟨b,j,q,r⟩:=(fun w=>Fl.zh (P:=P) w (t:=t) (ks:=List.replicate n (some .u8)) (d:=5) (m:=5) (xs:=J n (X f)) (ys:=J n (X h)) l a (by omega) o (by grind) (by rw[sg];exact g f) (by rw[sg];exact g h)) w;rw[p]at j;have e:b=decide (∀i,i<n->f i=h i):=by
  grind
 rw[<-e];exact⟨q,r⟩
def GH{P}{t}{n}(a:Fl.flatK P 5 t=some (List.replicate n (some .u8)))(b:P.keyTypeAt 5 t=true)(c:(match P.underlying t with|some (.array _ _)|some (.struct _)=>true|_=>false)=true)(e:P.cellsOf t=n){f:Nat->UInt8}{G}(g:G=J n (X f))(w):
 (binOp .eql t G G).run P w= .ok (.bool true) w/\(binOp .neq t G G).run P w= .ok (.bool false) w:=by
 subst g;have⟨j,h,i⟩:=Yp a b c e f f;obtain rfl:=h.2 fun _ _=>rfl;exact i w
def ad6(f:Nat->UInt8)(k:Nat)(a:k<6)(w):(Instr.index 56 (J 6 (X f)) (.int .i64 k)).run prog w= .ok (f k) w:=by
 obtain _|_|_|_|_|_|k:=k
 all_goals first|(exfalso;omega)|kernel_rfl
def Pc:prog.underlying 77=some (.array 4 76):=by kernel_rfl
def Nz:(prog.info? 77).map (·.size)=some 96:=by kernel_rfl
def NR:prog.underlying 78=some (.array 4 5):=by kernel_rfl
def S3:(prog.info? 78).map (·.size)=some 4:=by kernel_rfl
def EP{P:Program}{ops}{Q}{rest}{a}{w}{d}{ty tp}{x}{ps}{af}{e:Option (Tmp×Bool)}{b n}{t}{g}{G}(f:Region.wanted (Oper.mk d (.load ty x) tp ps af e) (yielded ops a.tmps)=true)(o m)(j:aj w b t n g)(l:G=J m fun i=>g (o+i))(p:o+m<=n){c:TypeDesc}(q:P.underlying ty=c)(r:c.isRow=true)(s:(P.info? ty).map (·.size)=m)(s:a.eval x= .pointer (some ⟨b,o,none⟩))
 (h:wpList P ops Q rest (a.put d G) w):wpList P ops Q (Oper.mk d (.load ty x) tp ps af e::rest) a w:=by
 subst l;exact D3 f fun K u=>wp_load_mid ty x rfl b o s _ c (j.range o m p) q r (by grind) (u _ _ h)
def NV(p:a8)(g:Nat->Value)(M:Ms)(w:World)(v:eE w g p)(N:jH w g)(e:cO p)(Q:dW p M)(R:∀t,M.I t=[]):
 Calls prog 137 #[.agg (J 10 g),.agg (J 142 (X (aB M)))] w (Rs (.bool true) w):=by
 have ap:=ql;have aq:=Fh;have⟨ar,b⟩:=eX (J 10 g);have⟨aD,f⟩:=eX (J 142 (X (aB M)));have⟨aa,h⟩:=eX (J 142 (X fun _=>0));have⟨ab,c⟩:=eX (J 9 fun _=>Value.int .u8 0);have⟨aE,ad,x,j,ae,af⟩:=si w 29 80 b f;rw[<-b,<-f];rw[<-h]at ap;rw[<-c]at aq;have aF:=bT b (dr rfl);have aG:=bT f (dr rfl);have aH:=bT h (dr rfl);have aJ:=bT c (dr rfl);have q:=(N.Z x)
 unfold jH at q;rw[<-b]at q;have⟨T,aK,o,ag⟩:=DS v;have⟨aL,aM,e1⟩:=v.N;have au:=e.iE;have⟨n,y⟩:=eX p.h.length;have⟨m,C⟩:=eX p.N;have av:=e.iG;rw[<-y]at o au;rw[<-C]at e1 av;have aw:=(j.C 3 (dr rfl)).t (by rw[o]);have ax:=(j.C 1 (dr rfl)).t (by rw[e1]);have⟨GT,E⟩:=eX (J 36 (X (aB M)));have⟨F,I⟩:=eX (J 6 (X M.mem));have⟨ay,s⟩:=eX (J 96 (X fun _=>0));have⟨az,u⟩:=eX (J 4 (X fun _=>0));have aN:=fun w=>(GH (P:=prog) (t:=72) (n:=9) (by kernel_rfl) (by kernel_rfl) (by kernel_rfl) (by kernel_rfl) (show ab=J 9 (X fun _=>0)from c) w).2;have aO:=fun w=>(GH (P:=prog) (t:=77) (n:=96) (by kernel_rfl) (by kernel_rfl) (by kernel_rfl) (by kernel_rfl) s w).1;have aR:=fun w=>(GH (P:=prog) (t:=78) (n:=4) (by kernel_rfl) (by kernel_rfl) (by kernel_rfl) (by kernel_rfl) u w).1;have ah:GT=J 36 fun i=>X (aB M) (0+i):=by rw[E];exact gP fun i _=>by rw[cK]
 have ai:F=J 6 fun i=>X (aB M) (36+i):=by rw[I];exact gP fun i r=>by unfold X;rw[ox M r]
 have L:∀i,42<=i->i<142->aB M i=0:=fun i aS aC=>by
  have:M=ov M:=by unfold ov;rw[show(fun _=>[])=M.I from funext fun t=>(R t).s]
  rw[this,TM M aC,O (by omega)]
 have ak:ay=J 96 fun i=>X (aB M) (42+i):=by rw[s];exact gP fun i r=>by unfold X;rw[L _ (by omega) (by omega)]
 have al:az=J 4 fun i=>X (aB M) (138+i):=by rw[u];exact gP fun i r=>by unfold X;rw[L _ (by omega) (by omega)]
 have am:∀(l:Nat) W,l<6->(Instr.index 56 (.agg F) (.int .i64 l)).run prog W= .ok (.int .u8 (Y (M.mem l))) W:=fun l W an=>by rw[I];exact ad6 M.mem l an W
 have ao:=aA s u;have a:=ag2 x j ae q ag ah ai ak al E Q e y C b c h af am ad;clear x j ae q ag ah ai ak al E Q e y C b c h f s u I af am ad L o e1 v N R;go_enter func137,ntmps137
 go_upto_region 1 with fail
 rw[<-a.T]
 go_wp2_with (first|(refine br 0 10 a.b (G:=ar) (by rw[a.o];exact gP fun i _=>by rw[cK]) (dr rfl) fN rfl gC rfl ?_)|(go_at_call 10;refine(a.d _ (aP _ _)).st fun y c=>?_)|(refine br 0 36 (a.c.Z c a.c.lt) a.f (dr rfl) Ml rfl J7 rfl ?_))
 have C:=aW a.b.lt c.size;have b:=aY c (a.a.t (c.m a.a.size)) ((c.C (p:=⟨w,3,none⟩) a.b.lt).t aw) ((c.C (p:=⟨w,1,none⟩) a.b.lt).t ax);clear c
 go_loopw [15] (fun i wr=>∃k:Nat,k<=4/\i= .int .i64 k/\Below y y wr) (fun i _=>4-(intOf i).toNat)
 case atStart=>exact⟨0,aQ _,rfl,aP _ _⟩
 obtain⟨k,am,rfl,e⟩:=hrel;by_cases L:k<4
 .have aT:(k:Int)<4:=by omega
  have⟨E,s⟩:=eX (J 9 (cJ (M.C k)));have N:∀W,(Instr.index 73 (.agg GT) (.int .i64 k)).run prog W= .ok (.agg E) W:=fun W=>by
   rw[a.j,s,QW _ k L];congr 2;exact gP fun i r=>by unfold X cJ;rw[nA M L r]
  by_cases Q:k<n
  .obtain⟨ag,ah,A,aU,rfl,f,h⟩:=a.e k (by rw[<-a.m];exact Q);have c:=aY e s f h;clear e s h f;have R:¬(n:Int)<=k:=by omega
   have ad:(k:Int)<n:=by omega
   go_upto_region 6 with(refine mh (cJ (M.C k)) c.b (by rw[a.p,dF]) iT (fun i _=>Hl _ _) rfl rfl ?_;intro ae u v)
   have j:=c.a.t (v.m c.a.size);have x:=b.b.t (j.m b.b.size);have d3:=(j.C (p:=⟨w,3,none⟩) C).t b.c;have af:=(x.C (p:=⟨ag,ah+k,none⟩) c.c).t c.D;have dp:ae.cell? wr=some (.int .u8 (Y (M.C k 0))):=u.C 0 (dr rfl);have⟨z,f⟩:=eX (Y (M.C k 0));rw[<-f]at dp;have:¬((bH p k):Int)<z:=by
    have:=a.k.pc k (bH p k) (by unfold bH;rw[bj,aI (by rw[<-a.m];exact Q)];rfl);rw[f];unfold Y;omega
   have:0<=z:=by rw[f];exact iW _
   have:z<256:=by rw[f];exact pC _
   have:IntKind.i64.wrap z=z:=gw _ (by omega);have o:=fun d q=>bO d3 d q;have ai:=fun d q=>bO af d q;have ak:=fun d q=>bO dp d q;have h:=H j;clear v u j x N f
   go_upto_region 8 with fail
   refine bV (by kernel_rfl) ?_
   repeat(first|go_big_quiet_step (fail)|quiet_step (fail))
   refine qn fun al x=>?_;have I:=H (h.y.t (x.m h.y.size));clear x o ai ak d3 af dp;go_wp2;exact⟨⟨k+1,by omega,by go_num,I.y⟩,by simp[intOf];omega⟩
  have af:E=ab:=by
   rw[s,a.p];exact gP fun i r=>by unfold cJ;rw[(a.k.off k (by rw[<-a.m];omega)).1 i];rfl
  subst af;have c:=aA e s;clear e s;have R:(n:Int)<=k:=by omega
  have ad:¬(k:Int)<n:=by omega
  go_upto_region 6 with(refine mh (cJ (M.C k)) c.B (by rw[c.B,dF]) iT (fun i _=>Hl _ _) rfl rfl ?_;intro ae u v)
  have j:=c.a.t (v.m c.a.size);have d3:=(j.C (p:=⟨w,3,none⟩) C).t b.c;have h:=aA j u;have o:=fun d q=>bO d3 d q;clear v u j N
  go_upto_region 8 with(refine EP rfl 0 9 h.B (G:=E) (by rw[c.B];exact gP fun i _=>by rw[cK]) (dr rfl) qy rfl iT rfl ?_)
  refine bV (by kernel_rfl) ?_
  repeat(first|go_big_quiet_step (fail)|quiet_step (fail))
  refine qn fun al x=>?_;have I:=H (h.a.t (x.m h.a.size));clear x o d3;go_wp2;exact⟨⟨k+1,by omega,by go_num,I.y⟩,by simp[intOf];omega⟩
 obtain rfl:k=4:=by omega
 have:¬((4:Nat):Int)<4:=by omega
 have h:=H e;clear e
 go_wp2_with (refine br 36 6 ((a.c.Z b.a a.c.lt).Z h.y (a.c.Z b.a a.c.lt).lt) a.g (dr rfl) BC rfl xx rfl ?_)
 have j:=b.b.t (h.y.m b.b.size);have:=H j;clear j
 go_loopw [49] (fun i j=>∃l:Nat,l<=6/\i= .int .i64 l/\Below y y j) (fun i _=>6-(intOf i).toNat)
 case atStart=>exact⟨0,aQ _,rfl,h.y⟩
 obtain⟨l,an,rfl,e⟩:=hrel;have⟨j,o⟩:=eX wr;have d1:=(e.C (p:=⟨w,1,none⟩) C).t b.D;have j:=H e;clear e o;by_cases o:l<6
 .have R:(l:Int)<6:=by omega
  have⟨z,f⟩:=eX (Y (M.mem l));have:∀W,(Instr.index 56 (.agg F) (.int .i64 l)).run prog W= .ok (.int .u8 z) W:=fun W=>by rw[f];exact a.s l W o
  by_cases l<m
  .have ad:¬(m:Int)<=l:=by omega
   clear f;go_wp2;exact⟨⟨l+1,by omega,by go_num,j.y⟩,by simp[intOf];omega⟩
  have:(m:Int)<=l:=by omega
  have s:z=0:=by rw[f,a.k.mem l (by rw[<-a.n];omega)];rfl
  clear f;subst s;go_wp2;exact⟨⟨l+1,by omega,by go_num,j.y⟩,by simp[intOf];omega⟩
 obtain rfl:l=6:=by omega
 have:¬((6:Nat):Int)<6:=by omega
 have cs:=(a.c.Z b.a a.c.lt).Z j.y (aW a.c.lt b.a.size);have e:=aA (cs.alloc (.cells aa 80)) (aj.dq wr 80 142 _ aa a.q);clear cs d1
 go_wp2_with (first|(refine br 42 96 e.a a.h (dr rfl) Pc rfl Nz rfl ?_)|(refine br 42 96 e.B ao.a (dr rfl) Pc rfl Nz rfl ?_)|(refine EP rfl 138 4 e.a a.i (dr rfl) NR rfl S3 rfl ?_)|(refine EP rfl 138 4 e.B ao.B (dr rfl) NR rfl S3 rfl ?_))
 go_ret;exact⟨rfl,(b.b.t (j.y.m b.b.size)).alloc (b.b.t (j.y.m b.b.size)).size _⟩
end
def dW.Bh{p}{M}(g:cO p)(h:dW p M)(t):(M.I t).length<=12:=by
 have:=h.len t;obtain f|f:=qN t p.h.length
 .have:=h.pc t _ (aI f);have:=g.len _ (oM f);omega
 rw[(h.off t f).2];simp
def dW.bare{p}{M}(h:dW p M):dW p (ov M):=
 ⟨fun t f=>⟨(h.off t f).1,rfl⟩,h.pc,h.mem,fun _=>aQ _,fun _=>List.Pairwise.nil,fun _ e g=>(sV g).elim⟩
section
attribute [local irreducible] Code.wp wpList Oper.wp wpQuiet
def cD{n}{g}{G}(h:G=J n g):G=J n fun i=>g (0+i):=by grind
def Xq:prog.underlying 76=some (.array 12 75):=by kernel_rfl
def acA:(prog.info? 76).map (·.size)=some 24:=by kernel_rfl
def IB:prog.underlying 75=some (.struct (prog.fieldsOf 75)):=by kernel_rfl
def rS:(prog.info? 75).map (·.size)=some 2:=by kernel_rfl
def Q5(w):(zeroValue 75).run prog w= .ok (J 2 (X fun _=>0)) w:=by kernel_rfl
def ad3(f)(k:Nat)(a:k<12)(w):(Instr.index 76 (J 24 f) (.int .i64 k)).run prog w= .ok (J 2 fun i=>f (k*2+i)) w:=by
 obtain _|_|_|_|_|_|_|_|_|_|_|_|k:=k
 all_goals first|(exfalso;omega)|kernel_rfl
def nW(e:UInt8×UInt8)(i:Nat):UInt8:=if i=0 then e.1 else e.2
def Ui(M){t i}(a:t<4)(b:i<12):(J 2 fun j=>X (aB M) (42+t*24+(i*2+j)))=J 2 (X (nW ((M.I t).getD i (0,0)))):=gP fun j c=>by
 unfold X;rw[x7 t,mD M a (by omega)];unfold ir nW
 grind
def WO{b:Bf}(h:b.Pairwise fun a c=>a.1<=c.1){i:Nat}(e:i+1<b):(b.getD i (0,0)).1<=(b.getD (i+1) (0,0)).1:=by
 have:=BM.1 h i (i+1) (by omega) e (by omega)
 grind
def Ww(p:a8)(g:Nat->Value)(M:Ms)(t:Nat)(w:World)(N:eE w g p)(Q:cO p)(b:dW p M)(I:t<4):
 Calls prog 139 #[.agg (J 10 g),.int .u8 3,.agg (J 142 (X (aB M))),.int .i64 t] w (Rs (.bool true) w):=by
 have ao:=Q5;have⟨aG,q⟩:=eX (J 10 g);have⟨aH,r⟩:=eX (J 142 (X (aB M)));have⟨ap,f⟩:=eX (J 2 (X fun _=>0));have⟨aj,R⟩:=eX (J 24 fun i=>X (aB M) (42+t*24+i));have⟨aJ,ak,al,u,x,ar⟩:=si w 29 80 q r;rw[<-q,<-r];rw[<-f]at ao;have:=bT q (dr rfl);have:=bT r (dr rfl);have:=bT f (dr rfl);have am:=b.Bh Q t;have an:=b.len t;have⟨T,aK,aa,au⟩:=DS N;have⟨aL,aM,e1⟩:=N.N;have av:=Q.iG;have⟨n,ab⟩:=eX p.h.length;have⟨m,ad⟩:=eX p.N;rw[<-ab]at aa;rw[<-ad]at e1 av;have A:=(u.C 3 (dr rfl)).t (by rw[aa]);have aw:=(u.C 1 (dr rfl)).t (by rw[e1]);have C:=AY x I (by omega);have E:=Kz x I;have:=fun w=>(GH (P:=prog) (t:=75) (n:=2) (by kernel_rfl) (by kernel_rfl) (by kernel_rfl) (by kernel_rfl) f w).2;have ae:∀(k:Nat) W,k<12->(Instr.index 76 (.agg aj) (.int .i64 k)).run prog W= .ok (.agg (J 2 (X (nW ((M.I t).getD k (0,0)))))) W:=fun k W o=>by rw[R,ad3 _ k o,<-Ui M I o]
 have F:∀k,k<(M.I t).length->((M.I t).getD k (0,0)).1.toNat<m:=fun k o=>by
  rw[bj,aI o,ad];exact b.loc t _ (oM o)
 have af:n<=t->(M.I t).length=0:=fun h=>by rw[(b.off t (by rw[<-ab];exact h)).2];rfl
 have⟨B,ag⟩:=eX (M.I t);have ah:=b.wT t;rw[<-ag]at ae F af am an C ah;have⟨z,l⟩:=eX (Y (M.C t 0));rw[<-l]at E;have:0<=z:=by rw[l];exact iW _
 have:z<256:=by rw[l];exact pC _
 have:IntKind.i64.wrap z=z:=gw _ (by omega);have ax:((B:Nat):Int)<=z:=by rw[l];unfold Y;omega
 have⟨L,ai⟩:=eX B.length;rw[<-ai]at af am C ax F;have:(t:Int)<4:=by omega
 have:¬(4:Int)<=t:=by omega
 have:¬(t:Int)<0:=by omega
 have:IntKind.i64.wrap ((L:Nat):Int)=L:=gw _ (by omega);have d3:=fun d c=>bO A d c;have ay:=fun d c=>bO C d c;have a:=yn al u x ae F f R ah ai ag ak;clear al u x ae F f R ah ai ag ak ar q r au N b Q an l ad ab aa e1;go_enter func139,ntmps139
 go_upto_region 1 with fail
 rw[<-a.K];refine bV (by kernel_rfl) ?_
 repeat(first|go_big_quiet_step (fail)|quiet_step (fail))
 refine qn fun W b=>?_;have A:=(b.C (p:=⟨w,3,none⟩) a.b.lt).t A;have E:=(b.C (p:=⟨w+1,t*9,none⟩) a.c.lt).t E;have q:=aY b (a.c.Z b a.c.lt) (a.a.t (b.m a.a.size)) ((b.C (p:=⟨w,1,none⟩) a.b.lt).t aw);have an:=aW a.b.lt b.size;clear b d3 ay C;have⟨ae,b⟩:=eX (if t<n then z else 0:Int);have:¬ae<L:=by
  rw[b];split
  .omega
  have:=af (by omega);omega
 have ar:=H b;clear b
 go_upto_if 26 with fail
 go_cut [9] (fun s b=>s= .int .i64 ae/\b=W)
 case first=>
  have b:=ar.y;by_cases ag:t<n
  .rw[aq ag]at b;have R:=H b;clear b;have aN:(t:Int)<n:=by omega
   go_wp2
   go_meet
   exact⟨by rw[R.y],rfl⟩
  rw[O ag]at b;have R:=H b;clear b;have:¬(t:Int)<n:=by omega
  go_wp2
  go_meet
  exact⟨by rw[R.y],rfl⟩
 obtain⟨rfl,rfl⟩:=hcut;clear E A
 go_wp2_with (refine br (42+t*24) 24 q.b a.g (by omega) Xq rfl acA rfl ?_)
 go_loopw [40] (fun i wr=>∃k:Nat,k<=12/\i= .int .i64 k/\Below wc wc wr) (fun i _=>12-(intOf i).toNat)
 case atStart=>exact⟨0,aQ _,rfl,aP _ _⟩
 obtain⟨k,o,rfl,r⟩:=hrel;by_cases au:k<12
 .have ay:(k:Int)<12:=by omega
  have⟨e,A⟩:=eX (B.getD k (0,0));have⟨GE,u⟩:=eX (J 2 (X (nW e)));have ah:∀W,(Instr.index 76 (.agg aj) (.int .i64 k)).run prog W= .ok (.agg GE) W:=fun W=>by rw[u,A];exact a.d k W au
  by_cases ai:k<L
  .have az:¬(L:Int)<=k:=by omega
   have b:=aY r u A (a.e k ai);clear r u A
   go_upto_region 12 with(refine mh (X (nW e)) b.b (by rw[a.f,dF]) rS (fun i _=>lg _ _) rfl rfl ?_;intro ak x C)
   have E:=b.a.t (C.m b.a.size);have d1:=(E.C (p:=⟨w,1,none⟩) an).t q.D;have N:ak.cell? wr=some (.int .u8 (Y e.1)):=x.C 0 (dr rfl);have aa:=q.b.Z E q.b.lt;have F:=b.D;rw[<-b.c]at F;have⟨y,f⟩:=eX (Y e.1);rw[<-f]at N;have:0<=y:=by rw[f];exact iW _
   have:y<256:=by rw[f];exact pC _
   have:IntKind.i64.wrap y=y:=gw _ (by omega);have:¬(m:Int)<=y:=by rw[f];unfold Y;omega
   have al:=fun d c=>bO N d c;have l:=aA E x;clear C x E ah F;obtain _|j:=k
   .clear f aa
    go_upto_region 14 with fail
    refine bV (by kernel_rfl) ?_
    repeat(first|go_big_quiet_step (fail)|quiet_step (fail))
    refine qn fun aC E=>?_;have ab:=H (l.a.t (E.m l.a.size));clear E al N d1;go_wp2;exact⟨⟨0+1,by omega,by go_num,ab.y⟩,by simp[intOf]⟩
   have Q:=DU aa I (i:=j) (by omega);rw[<-a.j]at Q;have⟨v,ad⟩:=eX (Y (B.getD j (0,0)).1);rw[<-ad]at Q;have:¬y<v:=by
    have:=WO a.h (i:=j) (by rw[<-a.i];exact ai);rw[<-b.c]at this;have:(B.getD j (0,0)).1.toNat<=e.1:=this;rw[f,ad];unfold Y;omega
   have aD:((j+1:Nat):Int)-1=j:=by omega
   have aE:(0:Int)<((j+1:Nat):Int):=by omega
   have:(j:Int)<12:=by omega
   have:¬(j:Int)<0:=by omega
   have:¬(12:Int)<=j:=by omega
   have⟨aO,F⟩:=eX (((j+1:Nat):Int):Int);have aF:=H F;rw[<-F]at ay az aD aE⊢;have el:=fun d c=>bO Q d c;clear f ad aa F
   go_upto_region 14 with fail
   refine bV (by kernel_rfl) ?_
   repeat(first|go_big_quiet_step (fail)|quiet_step (fail))
   refine qn fun aC E=>?_;have ab:=H (l.a.t (E.m l.a.size));clear E al el Q N d1
   go_wp2_with fail
   have F:=aF.y;subst F;exact⟨⟨j+1+1,by omega,by go_num,ab.y⟩,by simp[intOf];omega⟩
  have:(L:Int)<=k:=by omega
  have f:GE=ap:=by
   rw[u,a.f,A,bj,od (by rw[<-a.i];omega)];exact gP fun i _=>by unfold X nW;split<;>rfl
  subst f;have b:=aA r u;clear r u A
  go_upto_region 10 with(refine mh (X (nW e)) b.B (by rw[b.B,dF]) rS (fun i _=>lg _ _) rfl rfl ?_;intro ak x C)
  have l:=aA (b.a.t (C.m b.a.size)) x;clear C x ah
  go_wp2_with (refine br 0 2 l.B (cD b.B) (dr rfl) IB rfl rS rfl ?_)
  exact⟨⟨k+1,by omega,by go_num,l.a⟩,by simp[intOf];omega⟩
 obtain rfl:k=12:=by omega
 have:¬((12:Nat):Int)<12:=by omega
 have u:=H r;clear r;go_wp2;go_ret;exact⟨rfl,q.c.t (u.y.m q.c.size)⟩
def aaH(w):Calls prog 136 #[.int .u8 3] w (Rs true w):=by
 go_enter func136,ntmps136;go_wp2;go_ret;exact⟨rfl,aP _ _⟩
def Vk(p:a8)(g:Nat->Value)(M:Ms)(w:World)(f:eE w g p)(s:jH w g)(h:cO p)(m:dW p M):
 Calls prog 84 #[.agg (J 10 g),.int .u8 3,.agg (J 142 (X (aB M)))] w (Rs (.bool true) w):=by
 have⟨n,b⟩:=eX (J 10 g);have⟨u,c⟩:=eX (J 142 (X (aB M)));have⟨q,r⟩:=eX (J 142 (X (aB (ov M))));have⟨j,v,x,y,z,F⟩:=si w 29 80 b c;have A:∀W,Calls prog 138 #[.agg u] W (Rs (.agg q) W):=fun W=>by rw[c,r];exact R4 M W
 have C:∀W,Below w w W->Calls prog 137 #[.agg n,.agg q] W (Rs (.bool true) W):=fun W l=>by
  rw[b,r];exact NV p g (ov M) W (f.Z l (av _)) (s.Z l) h m.bare (fun _=>rfl)
 have E:∀(t:Nat) W,t<4->Below w w W->Calls prog 139 #[.agg n,.int .u8 3,.agg u,.int .i64 t] W (Rs (.bool true) W):=fun t W I l=>by
  rw[b,c];exact Ww p g M t W (f.Z l (av _)) h m I
 rw[<-b,<-c];have:=bT b (dr rfl);have:=bT c (dr rfl);have a:=gQ x y z A C E (cD b) (cD c) v;clear x y z A C E f s h m b c r v F;go_enter func84,ntmps84
 go_upto_region 1 with fail
 rw[<-a.I];have f:∀d h,Calls prog 137 #[.agg n,.agg q] (Go.Sort.grow (redrawn j d) h) fun e m=>e= .returned (.bool true)/\Below (Go.Sort.grow (redrawn j d) h) (Go.Sort.grow (redrawn j d) h) m:=fun d h=>a.e _ (a.a.t ((jO j d h).m a.a.size));refine bV (by kernel_rfl) ?_
 repeat(first|((with_reducible refine Dm _ ?_);refine Bp rfl 0 10 (AP a.b) a.g (dr rfl) fN rfl gC rfl ?_;simp only[o])|((with_reducible refine Dm _ ?_);refine Bp rfl 0 142 (AP a.c) a.h (dr rfl) dN rfl cQ rfl ?_;simp only[o])|go_big_quiet_step (first|(go_at_call 136;with_reducible exact aX (aaH _))|(go_at_call 138;with_reducible exact aX (a.d _))|(go_at_call 137;with_reducible exact aX (f _ _)))|quiet_step (fail))
 refine qn fun W c=>?_;have b:=aD (a.b.Z c a.b.lt) (a.c.Z c a.c.lt) (a.a.t (c.m a.a.size));clear c f;go_wp2
 go_loopw [18] (fun i wr=>∃k:Nat,k<=4/\i= .int .i64 k/\Below W.1.size W wr) (fun i _=>4-(intOf i).toNat)
 case atStart=>exact⟨0,aQ _,rfl,aP _ _⟩
 obtain⟨k,v,rfl,c⟩:=hrel;by_cases r:k<4
 .have x:(k:Int)<4:=by omega
  have f:=aY c (b.a.Z c b.a.lt) (b.b.Z c b.b.lt) (b.C.t (c.m b.C.size));clear c
  go_wp2_with (first|(refine br 0 10 f.b a.g (dr rfl) fN rfl gC rfl ?_)|(refine br 0 142 f.c a.h (dr rfl) dN rfl cQ rfl ?_)|(go_at_call 139;refine(a.f k _ r f.D).st fun y s=>?_))
  exact⟨⟨k+1,by omega,by go_num,f.a.t (s.m f.a.size)⟩,by simp[intOf];omega⟩
 obtain rfl:k=4:=by omega
 have:¬((4:Nat):Int)<4:=by omega
 have f:=H c;clear c;go_wp2;go_ret;exact⟨rfl,b.C.t (f.y.m b.C.size)⟩
end
def Oq(s):∀n m k a,s.size+1-k<=n->s.size+1-k<=m->k<=s.size->xV s n k a=xV s m k a
 |0,_,k,_,h,_,b=>by omega
 |_+1,0,k,_,_,h,b=>by omega
 |n+1,m+1,k,a,g,i,b=>by
  have:=D8 s k b;unfold xV;by_cases c:oV s (dQ s k)=false
  .grind
  rw[O c,O c];by_cases e:a=true
  .grind
  rw[O e,O e];by_cases f:s.size<=dQ s k
  .grind
  rw[O f,O f];exact Oq s n m _ _ (by omega) (by omega) (by omega)
def Tl(s)(k)(o)(e:k<=s.size):qt s k o=if oV s (dQ s k)=false then some (⟨(ji s (dQ s k)).1,dQ s k,(ji s (dQ s k)).2⟩,(ji s (dQ s k)).2,true)
 else if o then some (⟨4,dQ s k,dQ s k⟩,min (dQ s k+1) s.size,false)
 else if s.size<=dQ s k then none else qt s (dQ s k+1) false:=by
 have:=D8 s k e;show xV s (s.size+1-k) k o=_;rw[show s.size+1-k=(s.size-k)+1 by omega,xV];by_cases a:oV s (dQ s k)=false
 .grind
 rw[O a,O a];by_cases b:o=true
 .grind
 rw[O b,O b];by_cases c:s.size<=dQ s k
 .grind
 rw[O c,O c];exact Oq s _ _ _ _ (by omega) (by omega) (by omega)
section
attribute [local irreducible] Code.wp wpList Oper.wp wpQuiet
def abJ(b:Nat)(s:ByteArray)(r:Option (Tk×Nat×Bool))(w:World)(e:Ending)(a:World):Prop:=w.grownBy a (some b)/\match r with
 |some (t,k,c)=>e= .returned (.tuple #[Ko s t,.bool true])/\dS a b s k c
 |none=>e= .returned (.tuple #[.agg (J 3 (eN s ⟨0,0,0⟩)),.bool false])/\∃k c,dS a b s k c
def OM:(prog.info? 4).map (·.size)=some 1:=by kernel_rfl
def Pj(s):J 3 (eN s ⟨0,0,0⟩)=#[.int .u8 0,.string .empty,.int .i64 0]:=by
 have:s.extract 0 0= .empty:=by simp
 unfold J eN jf
 grind
def Zc(k:Nat)(w):(Instr.build 180 #[(0,.int .u8 4),(2,.int .i64 (k:Int))]).run prog w= .ok (.agg #[.int .u8 4,.string .empty,(k:Int)]) w:=by kernel_rfl
def abI(s)(k):#[.int .u8 4,.string .empty,.int .i64 (k:Int)]=J 3 (eN s ⟨4,k,k⟩):=rfl
def afl(w):(Instr.build 180 #[]).run prog w= .ok (.agg #[.int .u8 0,.string .empty,.int .i64 0]) w:=by kernel_rfl
def WJ(b:Nat)(s:ByteArray)(k:Nat)(A:Bool)(w:World)(h:dS w b s k A):Calls prog 204 #[.pointer b] w (abJ b s (qt s k A) w):=by
 have⟨M,c⟩:=eX (#[.int .u8 0,.string .empty,.int .i64 0]:Array Value);have ag:=EH;have ab:=afl;rw[<-c]at ag ab;have f:=c.t (Pj s).s;have ah:M.size=3:=by rw[c];rfl
 have:=bT f (dr rfl);have⟨C,a⟩:=eX (w.alloc (.cells M 180));have j:Below w w C:=by rw[a];exact ba w _
 have:C.1.size=w+1:=by rw[a];simp
 have E:aj C w 180 3 (eN s ⟨0,0,0⟩):=by rw[a];exact aj.dq w _ 3 _ M f
 have:=h.c.lt;have⟨R,l⟩:=eX (qt s k A);rw[<-l];have u:=dC j E (h.Z j) f l a;clear j E h f c l a;go_enter func204,ntmps204
 go_wp2_with fail
 rw[<-u.F]
 go_loopw [] (fun wr=>∃m p,dS wr b s m p/\qt s m p=R/\C.grownBy wr (some b)) (fun wr=>s.size-Bt wr b)
 case atStart=>exact⟨k,A,u.c,u.e.s,R8 _ _⟩
 obtain⟨m,p,c,f,j⟩:=hrel;rw[Tl s m p c.k]at f;have ai:=D8 s m c.k;have l:=aat b s m p wr c;have⟨a,n⟩:=eX (dQ s m);rw[<-n]at f ai l;have y:=aY c f j l;have:=j.size;clear c f j l n
 go_upto_region 2 with(go_at_call 228;refine y.D.m ?_;rintro e c ⟨rfl,v,N⟩)
 have x:=QD b s a p c v;have F:=bg y.c N;have I:=u.b.K F (sn (by omega));have L:=F;have P:=dD u.a (some b);by_cases q:oV s a=false
 .have ak:a<s.size:=by unfold oV at q;split at q<;>first|assumption|cases q
  have f:=y.b;rw[aq q]at f;rw[q]at x;have⟨T,r⟩:=eX (⟨(ji s a).1,a,(ji s a).2⟩:Tk);have⟨GT,t⟩:=eX (J 3 (eN s T));have j:∀W,dS W b s a true->Calls prog 230 #[.pointer b] W fun e ad=>e=GT/\dS ad b s (ji s a).2 true/\W.grownBy ad (some b):=fun W Q=>by
   rw[t,r];exact aft b s a true W Q ak
  have c:=jR v x I L t j f r;clear v x I F N L t j q f r
  go_upto_region 4 with(first|(go_at_call 229;refine c.b.st fun al j=>?_)|(refine kI 2 (.bool true) (oK s a true) (c.a.Z j).c (dr rfl) OM rfl (fun i X=>Nd _ _ _ _ i X) rfl rfl ?_;intro aa z n))
  have l:=aD (show dS aa b s a true from⟨z,c.a.k,c.a.s⟩) ((c.c.Z j c.c.lt).K n (sn (by omega))) (bg (bg c.d (dD j (some b))) n);clear j n z
  go_wp2_with (first|(go_at_call 230;refine(c.f _ l.a).m ?_;rintro e am ⟨rfl,n,ae⟩)|(refine jS (eN s T) (l.b.K ae (sn (by omega))) c.e jc (fun i _=>qK _ _ _) rfl rfl ?_;intro an ao af))
  refine bK (oT rfl _ ao _ rfl pB rfl jc) rfl ?_;rw[<-c.g];rw[<-c.H];exact⟨D5 (bg (bg P l.C) ae) af (av _),rfl,n.c.K af (sn (by omega)),n.k,n.s⟩
 have ae:oV s a=true:=by simpa using q
 have f:=y.b;rw[O q]at f;rw[ae]at x;have⟨T,r⟩:=eX (⟨4,a,a⟩:Tk);have⟨GT,t⟩:=eX (J 3 (eN s T));have af:∀w,(Instr.build 180 #[(0,.int .u8 4),(2,.int .i64 (a:Int))]).run prog w= .ok GT w:=fun w=>by rw[t,r,<-abI];exact Zc _ _
 have c:=dH v x I L t f r;have E:=v.c1;clear v x I F N L t q f r ae
 go_upto_region 5 with(go_at_call 229;refine c.b.st fun al j=>?_)
 have q:=c.a.Z j;have I:=q.c1;clear E
 go_upto_region 6 with(first|(refine uj [(0,.int .u8 4),(2,.int .i64 (a:Int))] _ (af _) rfl ?_)|(refine mh (eN s T) c.e ah jc (fun i _=>qK _ _ _) rfl rfl ?_;intro aa z r))
 have t:=j.t (r.m j.size);have v:=q.Z r;have x:=TL b s a p aa v;have⟨F,E⟩:=eX (decide (s.size<=a));rw[<-E]at x;have l:=dC z v (c.c.Z t c.c.lt) (bg c.d (dD t (some b))) x E;have:=aW c.c.lt j.size;clear j q I z r t v x E
 go_upto_region 7 with(go_at_call 231;refine l.e.st fun am j=>?_)
 have n:=l.b.Z j;have x:=n.c0;have m:=n.c1;have I:=n.c.lt;have L:=n.s;have z:IntKind.i64.wrap ((a:Int)+1)=(a:Int)+1:=gw _ (by omega);have:=j.size;have q:=aY n (l.a.Z j l.a.lt) (l.c.Z j l.c.lt) (bg l.d (dD j (some b)));clear j n;refine Bl.j2 17 (by kernel_rfl) (by kernel_rfl) ?_;simp only[st1]
 repeat(refine Bl.dK rfl (fun W Q=>by have g:=DB Q;simp[execOp,go_sem,g,I,x,m,z];rfl) ?_;simp only[o])
 refine Bl.kr ?_;intro an n;have t:=q.a.Z n;refine wpList_store_one rfl 3 (.tmp 46) (.tmp 43) rfl b 1 3 260 (oK s a p) (.int .i64 (min ((a:Int)+1) s.size)) rfl rfl t.c (dr rfl) uA rfl ?_;intro N E r;simp only[Act.put];have v:=t.put (k':=min (a+1) s.size) E (by omega) (by omega);have j:=aY v ((q.b.Z n q.b.lt).K r (sn (by omega))) ((q.c.Z n q.c.lt).K r (sn (by omega))) (bg (bg q.D (dD n (some b))) r);have:=v.c2;clear t E n r v x m z L;have f:=c.f;cases p with
 |true=>
  rw[aq rfl]at f;have n:=H f;clear f
  go_upto_region 10 with(first|(refine kI 2 (.bool false) (oK s (min (a+1) s.size) false) j.a.c (dr rfl) OM rfl (fun i X=>Nd _ _ _ _ i X) rfl rfl ?_;intro v t p)|(refine br 0 3 (j.b.K p (sn (by omega))) (cD c.e) (dr rfl) pB rfl jc rfl ?_)|(refine jS (eN s T) (j.c.K p (sn (by omega))) c.e jc (fun i _=>qK _ _ _) rfl rfl ?_;intro w9 r m))
  have v:=(j.b.K p (sn (by omega)))
  go_wp2_with (first|(refine br 0 3 v (cD c.e) (dr rfl) pB rfl jc rfl ?_)|(refine jS (eN s T) (j.c.K p (sn (by omega))) c.e jc (fun i _=>qK _ _ _) rfl rfl ?_;intro w9 r m))
  refine bK (oT rfl _ r _ rfl pB rfl jc) rfl ?_;rw[<-n.y,<-c.G];exact⟨D5 (bg (bg P j.D) p) m (av _),rfl,t.K m (sn (by omega)),j.a.k,j.a.s⟩
 |false=>
  rw[O (dr rfl)]at f;by_cases p:s.size<=a
  .rw[aq p]at f;obtain rfl:F=true:=by rw[l.F];simpa using p
   have n:=H f;clear f
   go_wp2_with (first|(refine uj [] _ (ab _) rfl ?_)|(refine jS (eN s ⟨0,0,0⟩) j.c u.d jc (fun i _=>qK _ _ _) rfl rfl ?_;intro w9 r m))
   refine bK (oT rfl _ r _ rfl pB rfl jc) rfl ?_;rw[<-n.y];exact⟨D5 (bg P j.D) m (av _),rfl,_,_,j.a.c.K m (sn (by omega)),j.a.k,j.a.s⟩
  rw[O p]at f;obtain rfl:F=false:=by rw[l.F];simpa using p
  have n:=H f;clear f;go_wp2;exact⟨⟨_,_,j.a,by rw[show min (a+1) s.size=a+1 by omega];exact n.y,j.D⟩,by rw[xA j.a,xA y.a];omega⟩
end
def aet{x}{k}(hk):yq x (k+1)=(yq x k&&(df x[k]==4)):=by
 unfold yq
 grind
def Vi{x}{k}(a:k<x.size)(h:(df x[k]==4)=false):yq x x.size=false:=by
 unfold yq
 grind
def XH{x}{k}(hk):sY x (k+1)=10*sY x k+(x[k].toNat-48):=by rw[sY,js hk]
def adt{c}(h:(df c==4)=true):48<=c.toNat/\c.toNat<=57:=by
 have h:=eq_of_beq h;unfold df at h;have:Y c=(c.toNat:Int):=rfl;omega
def aen{v d:Nat}(h:v<=1000)(a:d<=9):wrap64 (10*(v:Int)+wrap64 (d:Int))=((10*v+d:Nat):Int):=by
 unfold wrap64;omega
def Xw(x:ByteArray)(w:World):Calls prog 232 #[.string x] w fun e y=>(∃v,e=(Value.tuple #[v,(Dd x)]))/\y=w:=by
 have⟨R,a⟩:=eX (Dd x);rw[<-a];unfold Dd at a;by_cases l:x.size<1
 .rw[tL (by omega)]at a;have g:=H a;have t:(x.size:Int)<1:=by omega
  go_enter func232,ntmps232;go_wp2
  go_ret2
  have a:=g.y;subst a;exact⟨⟨_,rfl⟩,rfl⟩
 by_cases m:3<x.size
 .rw[tL (by omega)]at a;have g:=H a;have t:¬(x.size:Int)<1:=by omega
  have A:(3:Int)<x.size:=by omega
  go_enter func232,ntmps232;go_wp2
  go_ret2
  have a:=g.y;subst a;exact⟨⟨_,rfl⟩,rfl⟩
 have F:0<x.size:=by omega
 rw[js ⟨by omega,by omega⟩]at a;have⟨z,b⟩:=eX ((x[0].toNat==48&&decide (1<x.size)):Bool);rw[<-b]at a;have t:¬(x.size:Int)<1:=by omega
 have A:¬(3:Int)<x.size:=by omega
 have I:(0:Int)<x.size:=by omega
 cases z with
 |true=>
  have f:x[0].toNat=48/\1<x.size:=by simpa using b.s
  have o:(x[0].toNat:Int)=48:=by omega
  have J:(1:Int)<x.size:=by omega
  have g:=H a;clear a l m b f;go_enter func232,ntmps232;go_wp2
  go_ret2
  have a:=g.y;subst a;exact⟨⟨_,rfl⟩,rfl⟩
 |false=>
  have⟨n,p⟩:=eX x.size;have g:=aD a p (fun(k:Nat)(q:k<x.size) w=>B9 x[k] w);have j:((x[0].toNat:Int)=48/\¬(1:Int)<x.size)\/¬(x[0].toNat:Int)=48:=by
   by_cases f:(x[0].toNat:Int)=48
   .refine .inl ⟨f,fun h=>?_⟩;have:(x[0].toNat==48&&decide (1<x.size))=true:=by simp;omega
    rw[this]at b;cases b
   exact .inr f
  clear a b m l p;obtain⟨f,o⟩|f:=j
  all_goals
   go_enter func232,ntmps232
   go_wp2_with fail
   clear f
   try clear o
   go_loopw [4,26] (fun v i wr=>∃k,k<=x.size/\i= .int .i64 k/\wr=w/\v= .int .i64 (sY x k:Nat)/\yq x k=true/\sY x k<10^k) (fun _ i _=>x.size-(intOf i).toNat)
   case atStart=>exact⟨0,aQ _,rfl,rfl,rfl,rfl,by simp[sY]⟩
   obtain⟨k,q,rfl,rfl,rfl,o,m⟩:=hrel;have⟨v,l⟩:=eX (sY x k);rw[<-l]at m⊢;have C:10^k<=1000:=aO (Nat.pow_le_pow_right (dr rfl) (show k<=3 by omega)) (dr rfl);by_cases p:k<x.size
   .have j:=g.C k p;have q:=aet p;have r:=XH p;rw[o,kQ]at q;rw[<-l]at r;have⟨z,b⟩:=eX (df x[k]);rw[<-b]at j q;by_cases s:z=4
    .subst s;have u:=adt (c:=x[k]) (by rw[<-b];rfl);have⟨c,E⟩:=eX (x[k].toNat:Nat);have L:IntKind.u8.wrap ((x[k].toNat:Int)-48)=((x[k].toNat-48:Nat):Int):=by rw[FL _ (by omega)];omega
     have:IntKind.i64.wrap (10*(v:Int))=10*(v:Int):=gw _ (by omega);have:IntKind.i64.wrap (10*(v:Int)+((x[k].toNat-48:Nat):Int))=((10*v+(x[k].toNat-48):Nat):Int):=by rw[gw _ (by omega)];omega
     have f:=dC q r j m u l;clear q r j m u o b E l
     go_wp2_with (go_at_call 149;refine(f.c _).m ?_;rintro e w9 ⟨rfl,rfl⟩)
     have m:=f.d;have:=f.e;refine⟨⟨k+1,p,by go_num,trivial,?_,f.a,?_⟩,by simp[intOf];omega⟩
     .rw[f.b];have e:wrap64 (10*(v:Int)+wrap64 ((x[k].toNat-48:Nat):Int))=((10*v+(x[k].toNat-48):Nat):Int):=aen (nu (aW m C)) (by omega);rw[e]
     rw[f.b,Nat.pow_succ];omega
    have:(z !=4)=true:=by simpa using s
    have f:=aA (Vi p (by rw[<-b];simpa using s)) j;clear q r j m o b l s
    go_wp2_with (go_at_call 149;refine(f.B _).m ?_;rintro e w9 ⟨rfl,rfl⟩)
    go_ret2
    have a:=g.a;rw[f.a]at a;subst a;exact⟨⟨_,rfl⟩,rfl⟩
   have e:k=x.size:=by omega
   have a:=g.a;rw[<-e,o,<-l]at a;have:¬(k:Int)<x.size:=by omega
   have f:=H a;clear a l o;by_cases (255:Int)<v
   .go_wp2
    go_ret2
    have a:=f.y;rw[gX (by omega)]at a;subst a;exact⟨⟨_,rfl⟩,rfl⟩
   go_wp2
   go_ret2
   have a:=f.y;rw[fB (by omega)]at a;subst a;exact⟨⟨_,rfl⟩,rfl⟩
def Yi(s)(T)(w)(l:T.kind=3->0<(jf s T).size)(n:T.kind<=4):Calls prog 205 #[(J 3 (eN s T))] w (Rs (Value.int .i64 (sh T.kind (jf s T))) w):=by
 have⟨GT,f⟩:=eX (J 3 (eN s T));have⟨K,c⟩:=eX T.kind;have⟨x,g⟩:=eX (jf s T);rw[<-f,<-c,<-g];rw[<-c,<-g]at l;rw[<-c]at n;have:=bT f (dr rfl);have⟨h,i⟩:=eX (w.alloc (.cells GT 180));have m:Below w w h:=by rw[i];exact ba w _
 have j:aj h w 180 3 (eN s T):=by rw[i];exact aj.dq w _ 3 _ GT f
 have:h.cell? w=some (.int .u8 K):=by rw[c];exact j.C 0 (dr rfl)
 have:h.cell? ⟨w,1,none⟩=some (.string x):=by rw[g];exact j.C 1 (dr rfl)
 have⟨R,a⟩:=eX (sh K x);rw[<-a];unfold sh at a;have b:=aA m i;clear m j i f c g;by_cases e1:K=1
 .subst e1;rw[aq rfl]at a;by_cases (16:Int)<x.size
  .rw[aq (by omega)]at a;have c:=H a;go_enter func205,ntmps205
   go_upto_region 1 with fail
   rw[<-b.B];go_wp2;go_ret;exact⟨mF c.y.s,b.a⟩
  rw[O (by omega)]at a;have c:=H a;clear a;go_enter func205,ntmps205
  go_upto_region 1 with fail
  rw[<-b.B];go_wp2;go_ret;exact⟨mF c.y.s,b.a⟩
 rw[O e1]at a;by_cases e2:K=2
 .subst e2;rw[aq rfl]at a;have⟨j,g⟩:=eX (Dd x);have f:=Xw x;rw[<-g]at a f;have c:=aA a f;clear a f g;go_enter func205,ntmps205
  go_upto_region 1 with fail
  rw[<-b.B]
  go_upto_region 7 with(go_at_call 232;refine(c.B _).m ?_;rintro e w9 ⟨⟨v,rfl⟩,rfl⟩)
  cases j
  .go_wp2;go_ret;exact⟨mF c.a.s,b.a⟩
  go_wp2;go_ret;exact⟨mF c.a.s,b.a⟩
 rw[O e2]at a;have:¬(K:Int)=1:=by omega
 have:¬(K:Int)=2:=by omega
 by_cases i:K=3
 .subst i;rw[aq rfl,js (l rfl)]at a;have f:=B9 x[0];have⟨z,m⟩:=eX (df x[0]);rw[<-m]at a f;have:(0:Int)<x.size:=by omega
  by_cases g:z=6
  .subst g;have c:=aA a f;go_enter func205,ntmps205
   go_upto_region 1 with fail
   rw[<-b.B]
   go_wp2_with (go_at_call 149;refine(c.B _).m ?_;rintro e w9 ⟨rfl,rfl⟩)
   go_ret;exact⟨mF c.a.s,b.a⟩
  rw[O g]at a;have:(z !=6)=true:=by simpa using g
  have c:=aA a f;go_enter func205,ntmps205
  go_upto_region 1 with fail
  rw[<-b.B]
  go_wp2_with (go_at_call 149;refine(c.B _).m ?_;rintro e w9 ⟨rfl,rfl⟩)
  go_ret;exact⟨mF c.a.s,b.a⟩
 rw[O i]at a;have:¬(K:Int)=3:=by omega
 go_enter func205,ntmps205
 go_upto_region 1 with fail
 rw[<-b.B];go_wp2;go_ret;exact⟨mF (H a).y.s,b.a⟩
def nX(s:ByteArray)(k:Nat)(a:Bool):Nat:=2*(s.size-k)+if a then 1 else 0
structure Xg(s:ByteArray)(k:Nat)(o:Bool)(t:Tk)(k':Nat)(o':Bool):Prop where
 le:k'<=s.size
 less:nX s k' o'<nX s k o
 TI:t.kind=3->0<(jf s t).size
 kind:t.kind<=4
def K3(s):∀n k a t k' c,s.size-k<=n->k<=s.size->qt s k a=(t,k',c)->Xg s k a t k' c:=by
 intro n
 induction n with
 |zero=>?_
 |succ n o=>?_
 all_goals
  intro k a t k' c u j h;rw[Tl s k a j]at h;have:=D8 s k j;by_cases b:oV s (dQ s k)=false
  .rw[aq b]at h;have l:dQ s k<s.size:=by unfold oV at b;split at b<;>first|assumption|cases b
   have p:=Ow l;injection h with h;injection h with f h;injection h with g i;subst f g i;have:(ji s (dQ s k)).1<=3:=by
    unfold ji;rw[js l];split
    .show(1:Nat)<=3;decide
    split
    .show(2:Nat)<=3;decide
    exact av _
   refine⟨p.2,?_,fun _=>?_,by show(ji s (dQ s k)).1<=4;omega⟩
   .unfold nX;simp only[yk];omega
   unfold jf;rw[O (by show¬(ji s (dQ s k)).1=4;omega),ByteArray.size_extract];show 0<min (ji s (dQ s k)).2 s.size-dQ s k;omega
  rw[O b]at h;by_cases m:a=true
  .rw[aq m]at h;injection h with h;injection h with f h;injection h with g i;subst f g i;refine⟨Nat.min_le_right _ _,?_,fun e=>absurd (show(4:Nat)=3 from e) (dr rfl),av _⟩;unfold nX
   grind
  rw[O m]at h;by_cases q:s.size<=dQ s k
  .grind
  rw[O q]at h
  first
   |omega
   |(have r:=o (dQ s k+1) false t k' c (by omega) (by omega) h
     refine⟨r.le,aW r.less ?_,r.TI,r.kind⟩;unfold nX;split<;>simp<;>omega)
def IP(s):∀n m k a,k<=s.size->nX s k a<n->nX s k a<m->qL s n k a=qL s m k a
 |0,_,_,_,_,h,_=>by omega
 |_+1,0,_,_,_,_,h=>by omega
 |n+1,m+1,k,a,c,e,f=>by
  unfold qL;cases h:qt s k a with
  |none=>rfl
  |some r=>
   obtain⟨t,k',b⟩:=r;have r:=K3 s _ k a t k' b (av _) c h;have:=r.less;exact cg (t::·) (IP s n m k' b r.le (by omega) (by omega))
def mI(s:ByteArray)(k:Nat)(a:Bool):List Tk:=qL s (nX s k a+1) k a
def aeo{s}{k}{o}(h:qt s k o=none):mI s k o=[]:=by unfold mI qL;rw[h]
def UZ{s}{k}{o}{t}{k'}{o'}(a:k<=s.size)(h:qt s k o=(t,k',o')):mI s k o=t::mI s k' o':=by
 have r:=K3 s _ k o t k' o' (av _) a h;have:=r.less;unfold mI;rw[qL,h];exact cg (t::·) (IP s _ _ k' o' r.le (by omega) (by omega))
def Jg(s):pd s=mI s 0 false:=by
 exact IP s _ _ 0 false (aQ _) (by unfold nX;simp) (qW _)
section
attribute [local irreducible] Code.wp wpList Oper.wp wpQuiet
def YP(s:ByteArray)(t:Tk)(v u:Value)(_:World):Prop:=v= .agg (J 3 (eN s t))/\u= .int .i64 (sh t.kind (jf s t))
def T7(e b:Nat)(c:List Nat)(W:World):Prop:=Boxed W e 301 (.pointer b)/\b∉c/\∀q∈c,q<W.1.size
def EC(s:ByteArray)(w:World)(b:Nat)(v:Value):Nat:=match v with
 | .bool true=>nX s (Bt w b) (match w.cell? ⟨b,2,none⟩with
   |some (.bool c)=>c
   |_=>false)+1
 |_=>0
def EQ{w}{b}{s}{k}{o}(h:dS w b s k o):EC s w b (.bool true)=nX s k o+1:=by unfold EC;simp only[xA h,h.c2]
section
variable{F:Fence}{m':Nat}{P:Program}{ops:Array Oper}{Q:Exit->Act->World->Prop}{rest:List Oper}{a:Act}{w:World}{d:Option Tmp}{ty tp:TypeId}{x y:Operand}{ps:String}{af:Array Edge}{b n:Nat}{t:TypeId}{g:Nat->Value}{G:Array Value}
def ag8{gd}(h:wpListIn F m' P ops Q (Oper.mk d (.load ty x) tp ps af gd::rest) a w):wpListIn F m' P ops Q (Oper.mk d (.load ty x) tp ps af gd::rest) a w:=h
def ahb{gd}(h:wpListIn F m' P ops Q (Oper.mk d (.store ty x y) tp ps af gd::rest) a w):wpListIn F m' P ops Q (Oper.mk d (.store ty x y) tp ps af gd::rest) a w:=h
def OJ(o m)(e:aj w b t n g)(j:G=J m fun i=>g (o+i))(l:o+m<=n){c:TypeDesc}(p:P.underlying ty=c)(q:c.isRow=true)(r:(P.info? ty).map (·.size)=m)(s:a.eval x= .pointer (some ⟨b,o,none⟩))
 (h:wpListIn F m' P ops Q rest (a.put d G) w)(u:∀f,F.fn f:=by intro f;trivial):wpListIn F m' P ops Q (Oper.mk d (.load ty x) tp ps af none::rest) a w:=by
 subst j;exact vT rfl ty x rfl b o m n t g s e l c p q r u h
def Oa(f)(e:aj w b t n g)(j:G=J n f)(l:(P.info? ty).map (·.size)=n)(m:∀i,i<n->(f i).oneCell'=true)(o:a.eval x= .pointer b)(p:a.eval y= .agg G)
 (h:∀c,aj c b t n f->w.grownBy c (some b)->wpListIn F m' P ops Q rest (a.put d undef) c)(q:∀f,F.fn f:=by intro f;trivial):wpListIn F m' P ops Q (Oper.mk d (.store ty x y) tp ps af none::rest) a w:=
 uL rfl ty x y rfl b 0 n n t g f o (by rw[p,j]) e (by omega) l m q fun c o p=>h c (o.congr fun i r=>by unfold bm;rw[aq ⟨aQ _,by omega⟩,ez]) p
def Kl{Z}(f)(e:G=J n f)(j:Z.size=n)(l:(P.info? ty).map (·.size)=n)(m:∀i,i<n->(f i).oneCell'=true)(o:a.eval x= .pointer w)(p:a.eval y= .agg G)
 (h:∀c,aj c w t n f->Below w w c->wpListIn F m' P ops Q rest (a.put d undef) c)(q:∀f,F.fn f:=by intro f;trivial):wpListIn F m' P ops Q (Oper.mk d (.store ty x y) tp ps af none::rest) a (w.alloc (.cells Z t)):=by
 subst j;exact Oa f (aj.dq w t Z.size _ Z (uR _)) e l m o p (fun c r s=>h c r (fJ s)) q
end
def CY{P:Program}{o}{a:Act}{w}{ty}{x}{b n:Nat}{t}{g}{G}(c:o.op= .load ty x)(e:a.eval x= .pointer b)(f:aj w b t n g)(h:G=J n g){d:TypeDesc}(i:P.underlying ty=d)(j:d.isRow=true)(l:(P.info? ty).map (·.size)=n):(execOp a.eval o).run P w= .ok (.value G) w:=by
 subst h;unfold execOp;simp only[c,e,Instr.loadAt,Instr.sureAddr,eD,eZ,eY,(vW (P:=P) w b t ty (J n g) (0,0) d f i (by grind) (by simp_all))]
structure BX(s:ByteArray)(b:Nat)(rest:List Tk)(t:Tk)(ok:Bool)(n:Nat)(W:World):Prop where
 Ls:ok=true->∃k o,rest=t::mI s k o/\dS W b s k o/\(t.kind=3->0<(jf s t).size)/\t.kind<=4
 no:ok=false->rest=[]
 less:EC s W b (.bool ok)<=n
def BX.keep{s}{b}{rest}{t}{ok}{n}{W W'}(h:BX s b rest t ok n W)(r:W'.1[b]? =W.1[b]?):BX s b rest t ok n W':=by
 refine⟨fun e=>?_,h.no,?_⟩
 .have⟨k,i,u,f,A⟩:=h.Ls e;exact⟨k,i,u,⟨r.t f.c,f.k,f.s⟩,A⟩
 have o:=h.less;cases ok with
 |false=>exact o
 |true=>
  have⟨k,i,u,f,A⟩:=h.Ls rfl;have C:dS W' b s k i:=⟨r.t f.c,f.k,f.s⟩
  rw[EQ C];rw[EQ f]at o;exact o
def Oc(b)(s)(k)(o)(w:World)(h:dS w b s k o):Calls prog 204 #[.pointer b] w fun e i=>∃t j,e=(Value.tuple #[(J 3 (eN s t)),.bool j])/\w.grownBy i (some b)/\BX s b (mI s k o) t j (nX s k o) i:=by
 refine(WJ b s k o w h).m ?_;rintro e i ⟨l,c⟩;cases f:qt s k o with
 |none=>
  rw[f]at c;exact⟨_,false,c.1,l,fun h=>absurd h (dr rfl),fun _=>aeo f,aQ _⟩
 |some r=>
  obtain⟨t,k',m⟩:=r;rw[f]at c;have r:=K3 s _ k o t k' m (av _) h.k f;exact⟨t,true,c.1,l,fun _=>⟨k',m,UZ h.k f,c.2,r.TI,r.kind⟩,fun h=>absurd h (dr rfl),by rw[EQ c.2];exact r.less⟩
def afx(N b:Nat)(s:ByteArray)(X:Nat)(aa:Bool)(w0:World)(M:dS w0 b s X aa)(r:Boxed w0 N 301 (.pointer b))(m:Nat):
 qc.mH Fence.wide m prog 203 #[.pointer N] (YP s) (mI s X aa) [b] (T7 N b) w0:=by
 intro aQ aC aS ah W z aE A C l E;have aF:Boxed W N 301 (.pointer b):=(z.block _ r.lt).t r;have I:=M.Z z;have ad:=aF.C;have O:=Oc b s X aa W I;have R:=(A _ _ _ E).2.1;have⟨aG,q⟩:=eX (#[.int .u8 0,.string .empty,.int .i64 0]:Array Value);have aH:=EH;rw[<-q]at aH;have ab:=q.t (Pj s).s;have ao:aG.size=3:=by rw[q];rfl
 have:=bT ab (dr rfl);have⟨B,L⟩:=eX W.1.size;rw[<-L]at C l;have⟨xs,f⟩:=eX (mI s X aa);rw[<-f]at l⊢;have v:=gQ A C l E f L I O R;clear A C l E f L I O R M r z q ab;refine rM func203 rfl trivial ?_ rfl;simp only[ntmps203,jC,gL,iP,Nat.reduceAdd,Nat.reduceSub,j8,j5,kh,kj,gG,iJ]
 gi_wp2
 refine⟨trivial,fun h=>(by cases h),(dh.2 v.h).m ?_⟩;rintro e ap ⟨t,ab,rfl,q,I⟩;have⟨G,l⟩:=eX (J 3 (eN s t));rw[<-l];have z:=aD q I l;clear q I l
 gi_wp2_with (refine Kl (eN s t) z.C ao jc (fun i _=>qK _ _ _) rfl rfl ?_;intro C q l)
 have r:qc.Steps B [b] ah W C:=⟨l.os.t z.a.os,l.tape.t z.a.tape,l.output.t z.a.output,aO z.a.size l.size,fun k A ai=>(l.block k (aW A z.a.size)).t (z.a.block k A (fun e=>by
  have e:=aR e;subst e;obtain⟨_,h⟩|h:=ai
  .exact h (lh.2 rfl)
  .exact v.I h))⟩
 have:b<B:=by rw[v.f];exact v.g.c.lt
 have ar:B<=ap:=by rw[v.f];exact z.a.size
 have A:ap.1.size∉ah:=fun h=>by have:=aE _ h;have:=z.a.size;omega
 have O:=bM (z.b.keep (l.block b (by omega))) (v.b _ _ _ _ v.d r) q A (aO ar l.size);clear r q A l ad
 gi_loopw [3,4] (fun q l wr=>∃L rest M E t ab n,xs=L++rest/\aC L M wr/\B<=wr.1.size/\q= .pointer (E:Nat)/\B<=E/\E∉M/\l= .bool ab/\aj wr E 180 3 (eN s t)/\BX s b rest t ab n wr) (fun _ l wr=>EC s wr b l)
 case atStart=>exact⟨[],_,ah,_,t,ab,_,v.e,O.b,O.E,rfl,ar,O.d,rfl,O.c,O.a⟩
 obtain⟨L,rest,M,E,t1,aI,aT,f,A,au,rfl,aJ,av,rfl,ak,I⟩:=hrel;have⟨R,al,_⟩:=v.a _ _ _ A;have ad:=R.C;cases aI with
 |false=>
  have l:=aD A f (I.no rfl);clear A f I R al ak
  gi_wp2
  refine FF (ju rfl _ _ _) rfl ?_;have A:=l.a;have aw:=l.b;rw[l.C,kL]at aw;rw[<-aw]at A;exact⟨⟨_,rfl⟩,.inl ⟨M,A⟩⟩
 |true=>
  have⟨k,ae,am,ax,ay,az⟩:=I.Ls rfl;have⟨C,ag⟩:=eX (J 3 (eN s t1));have⟨e1,an⟩:=eX (sh t1.kind (jf s t1));have aA:∀W,Calls prog 205 #[C] W (Rs (Value.int .i64 e1) W):=fun W=>by rw[ag,an];exact Yi s t1 W ay az
  have aB:L++[t1]<+:xs:=by rw[f,am];exact⟨mI s k ae,by simp⟩
  have l:=gQ aA (show∀r,Below wr wr r->_ from fun r q=>v.c L M t1 C e1 r (v.b _ _ _ _ A (qc.Steps.gz q)) (aO au q.size) aB ⟨by rw[ag],by rw[an]⟩) ak ax am f R al ag;clear aA ak ax am f R al ag an I A aB ay az ad
  gi_wp2_with fail
  have I:∀r,Below wr.1.size wr r->aj r E 180 3 (eN s t1):=fun r h=>l.c.Z h l.c.lt;refine Dl (by kernel_rfl) ?_;change wpAnyIn _ _ _ _ _ _ _ _ _ (World.drew _);refine jq 0 ?_ (by simp only[u];rfl) (by kernel_rfl) (by exact fun _ _ _ h=>h) ⟨.inl ⟨by rfl,?_⟩,by exact fun _=>rfl⟩ rfl ?_
  rotate_left
  .intro w;go_simp;try(with_reducible rfl)
  try simp only[o]
  refine(fun(T:∀r,Below wr wr r->(?G:World->Prop) r)=>?_) ?_;rotate_left
  .refine uy (rs:=[1,2]) (by kernel_rfl) (by simp) ?_;refine kT (by simp only[u];rfl) (fun K f=>?_) (kT (by simp only[u];rfl) (fun K f=>?_) tD)
   .rw[aq (by rfl)];refine Cf (fun _=>trivial) C _ (by intro c h;cases h) (CY rfl rfl ((I _ (rY wr))) l.I pB rfl jc) ?_;refine f _ _ ?_;clear f K
    try simp only[o]
    refine gV 2 (by kernel_rfl) (by simp only[u];rfl) fun K f=>?_;rw[aq (by rfl)];refine Cf (fun _=>trivial) C _ (by intro c h;cases h) (CY rfl rfl ((I _ (rY wr))) l.I pB rfl jc) ?_;refine f _ _ ?_;clear f K
    try simp only[o]
    refine gV 3 (by kernel_rfl) (by simp only[u];rfl) fun K f=>?_;rw[aq (by rfl)];refine DH (fun _=>trivial) rfl 205 #[C] (by intro c h;cases h) (by simp[execOp,go_sem]) ?_;refine(dh.2 (l.a _)).st fun r q=>?_;refine⟨_,rfl,?_⟩;refine f _ _ ?_;clear f K
    try simp only[o]
    have q:=(rY wr).t q;exact T r q
   rw[aq (by rfl)];refine Cf (fun _=>trivial) C _ (by intro c h;cases h) (CY rfl rfl (I _ (rY wr)) l.I pB rfl jc) ?_;refine f _ _ ?_;clear f K
   try simp only[o]
   refine uy (rs:=[1,3]) (by kernel_rfl) (by simp) ?_;refine kT (by simp only[u];rfl) (fun K f=>?_) (kT (by simp only[u];rfl) (fun K f=>?_) tD)
   .rw[aq (by rfl)];refine Cf (fun _=>trivial) C _ (by intro c h;cases h) (CY rfl rfl (I _ (rY wr)) l.I pB rfl jc) ?_;refine f _ _ ?_;clear f K
    try simp only[o]
    refine gV 3 (by kernel_rfl) (by simp only[u];rfl) fun K f=>?_;rw[aq (by rfl)];refine DH (fun _=>trivial) rfl 205 #[C] (by intro c h;cases h) (by simp[execOp,go_sem]) ?_;refine(dh.2 (l.a _)).st fun r q=>?_;refine⟨_,rfl,?_⟩;refine f _ _ ?_;clear f K
    try simp only[o]
    have q:=(rY wr).t q;exact T r q
   rw[aq (by rfl)];refine DH (fun _=>trivial) rfl 205 #[C] (by intro c h;cases h) (by simp[execOp,go_sem]) ?_;refine(dh.2 (l.a _)).st fun r q=>?_;refine⟨_,rfl,?_⟩;refine f _ _ ?_;clear f K
   try simp only[o]
   have q:=(rY wr).t q;refine gV 1 (by kernel_rfl) (by simp only[u];rfl) fun K f=>?_;rw[aq (by rfl)];refine Cf (fun _=>trivial) C _ (by intro c h;cases h) (CY rfl rfl (I _ (q)) l.I pB rfl jc) ?_;refine f _ _ ?_;clear f K
   try simp only[o]
   exact T r q
  intro r q;have⟨fn,tmps,assign,body,al,ag⟩:=l.b r q;refine gV 4 (by kernel_rfl) (by simp only[u];rfl) fun K f=>?_;rw[aq (by rfl)];go_simp;refine⟨fun h=>(by cases h),ag.m ?_⟩;rintro e am (⟨rfl,ak,R,M⟩|⟨rfl,an⟩)
  .have ax:=q.size;have:=l.c.lt;have ay:=(M.keep E (.inl aJ) (by omega) av).t (I r q);have r:dS am b s k ae:=⟨(M.keep b (.inr (lh.2 rfl)) (aW l.d.c.lt ax) l.h).t (l.d.Z q).c,l.d.k,l.d.s⟩
   have az:E∉ak:=fun h=>by
    obtain h|h:=M.new _ h
    .exact av h
    omega
   have⟨q,aA,aB⟩:=v.a _ _ _ R;have aK:am.1.size∉ak:=fun h=>n9 _ (aB _ h);have E:=dH R ay r az aA (aO au (aO ax M.size)) (Oc b s k ae);have ad:=q.C;have aL:=q.lt;clear R M ay r az aA ag al q;refine f _ _ ?_;clear f K
   try simp only[o]
   refine gV 5 (by kernel_rfl) (by simp only[u];rfl) fun K f=>?_;go_simp;refine f _ _ ?_;clear f K
   try simp only[o]
   refine DM (by kernel_rfl) ?_ _
   gi_wp2_with (first|(refine OJ 0 3 E.b (cD l.I) (dr rfl) pB rfl jc rfl ?_)|(refine Kl (eN s t1) l.I ao jc (fun i _=>qK _ _ _) rfl rfl ?_;intro r ay q;have aM:=(q.C (p:=N) aL).t ad))
   have az:=E.c.Z q;refine⟨trivial,fun h=>(by cases h),(dh.2 (E.G r az)).m ?_⟩;rintro e aU ⟨t2,aN,rfl,r,aA⟩;have⟨aV,M⟩:=eX (J 3 (eN s t2));rw[<-M];have aP:=E.f;have R:=bM M aA r q (ay.K r (sn (by omega)));clear M aA r q ay az ad aM
   gi_wp2_with (refine Oa (eN s t2) R.E R.a jc (fun i _=>qK _ _ _) rfl rfl ?_;intro w9 ay M)
   have q:=R.d;have r:=R.c;have:=q.size;have:=r.size;have:=M.size;have ad:=R.b.keep (M.block b (by omega) (sn (by omega)));have az:=v.b _ _ _ w9 E.a ⟨M.os.t (r.os.t q.os),M.tape.t (r.tape.t q.tape),M.output.t (r.output.t q.output),by omega,fun j A ai=>(M.block j (by omega) (sn (by omega))).t ((r.block j (by omega) (by
    intro e;cases e;obtain⟨_,h⟩|h:=ai
    .exact h (lh.2 rfl)
    .exact E.e h)).t (q.block j A))⟩
   exact⟨⟨L++[t1],_,ak,_,t2,aN,_,by rw[l.f,l.e];simp,az,by omega,rfl,aP,aK,rfl,ay,ad⟩,by rw[EQ l.d];exact Nat.lt_succ_of_le ad.less⟩
  have q:=H an;clear an ag al;refine f _ _ ?_;clear f K
  try simp only[o]
  refine gV 5 (by kernel_rfl) (by simp only[u];rfl) fun K f=>?_;go_simp;refine f _ _ ?_;clear f K
  try simp only[o]
  refine DM (by kernel_rfl) ?_ _
  gi_wp2
  refine bK (ju rfl _ _ _) rfl ?_;exact⟨⟨_,rfl⟩,.inr ⟨_,by rw[l.f,l.e];exact⟨mI s k ae,by simp⟩,q.y⟩⟩
end
end Go.Proofs.YtilhngjecfdgpaaGreatDoor
