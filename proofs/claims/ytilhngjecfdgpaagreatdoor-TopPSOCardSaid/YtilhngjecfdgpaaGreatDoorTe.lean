/- Part 5 of 9 of the proof of seisintop.TopPSO (theorem topPSO.card, at the end of the last part), its names and blanks shortened by a program to fit a claim's bound; it holds the texts If Ig Nj Ih Ii Ja Jb Jc Jd Je Jf Mg Jg Jh Ji Jj Jk Jl Jm Jn Jo Ka Kb Kc Kd Ke Kf Kg Kh Ki Kj Kk Kl Km La Pa Pb Pc, one behind the other. -/
import Derived.Test.YtilhngjecfdgpaaGreatDoorTd
set_option linter.all false
set_option linter.defProp false
set_option linter.unusedVariables false
set_option linter.unusedSimpArgs false
set_option maxRecDepth 100000
set_option maxHeartbeats 16000000
namespace Go.Proofs.YtilhngjecfdgpaaGreatDoor
open Go.RowKit Go.Shelf Go.Proofs.Tryz
section
open Go.Sort
abbrev encI:Int->Value:=Value.int .i64
def mP(a:Int->Int->Int)(x y:Int):Bool:=decide (a x y<0)
structure rl(w:World)(f off:Nat)(dk:Array Int)(W:World):Prop where
 gr:w.grownBy W (some f)
 row:Holds encI W f off dk
def rl.Z{w W W'}{f off}{dk}(h:rl w f off dk W)(g:Below W W W')(i:f<W):rl w f off dk W':=
 ⟨h.gr.t ⟨g.os,g.tape,g.output,g.size,fun k o _=>g.block k o⟩,fun j o=>⟨(g.C (p:=⟨f,off+j,none⟩) i).t (h.row j o).1,by have:=(h.row j o).2;rwa[World.frozen?_of_block (w:=W) (a:=⟨f,off+j,none⟩) (g.block f i)]⟩⟩
def rl.swap{w W}{f off}{dk}{j}(h:rl w f off dk W)(r:j+1<dk.size):
 rl w f off (swp dk (j+1) j) ((W.setCell ⟨f,off+(j+1),none⟩ (.int .i64 dk[j]!)).setCell ⟨f,off+j,none⟩ (.int .i64 dk[j+1]!)).drew:=by
 refine⟨(h.gr.t ((mL _ _ _ _).t (mL _ _ _ _))).t ⟨rfl,rfl,rfl,av _,fun _ _ _=>rfl⟩,fun t g=>?_⟩;rw[size_swp]at g;show((W.setCell ⟨f,off+(j+1),none⟩ (.int .i64 dk[j]!)).setCell ⟨f,off+j,none⟩ (.int .i64 dk[j+1]!)).cell? _=_/\((W.setCell ⟨f,off+(j+1),none⟩ (.int .i64 dk[j]!)).setCell ⟨f,off+j,none⟩ (.int .i64 dk[j+1]!)).frozen? _=_;refine⟨?_,by rw[Us,Us];exact(h.row t g).2⟩;have ne:∀p q:Nat,p≠q->(⟨f,off+p,none⟩:Addr)≠⟨f,off+q,none⟩:=fun p q h e=>by grind
 by_cases i:t=j
 .subst i;rw[QB (u:=encI dk[t]!) (h:=by rw[JS (h:=ne _ _ (by omega))];exact(h.row t g).1),swp_right _ _ _ g]
 rw[JS (h:=ne _ _ (fun e=>i e.s))];by_cases o:t=j+1
 .subst o;rw[QB (h:=(h.row (j+1) g).1),swp_left _ _ _ g (by omega)]
 rw[JS (h:=ne _ _ (fun e=>o e.s)),swp_other _ _ _ _ o i];exact(h.row t g).1
def afJ{P:Int->Prop}{dk}{i j}(c:i<dk.size)(e:j<dk.size)(f:i≠j)(h:∀t,t<dk.size->P dk[t]!):∀t,t<(swp dk i j).size->P (swp dk i j)[t]!:=fun t g=>by
 rw[size_swp]at g;by_cases a:t=i
 .rw[a,swp_left _ _ _ c f]
  grind
 by_cases b:t=j
 .rw[b,swp_right _ _ _ e]
  grind
 rw[swp_other _ _ _ _ a b]
 grind
def acb(l:Int->Int->Int)(g:Nat)(N:Array Value)(m q ag b:Nat)(d:Array Int)(w:World)(am:∀args w,(callFunc g args).run prog w= .ok (.enter g args) w)(a:∀i,i<d.size->0<=d[i]!/\d[i]!<48)
 (c:∀W(x y:Int),w.grownBy W (some m)->0<=x->x<48->0<=y->y<48->Calls prog g (#[.int .i64 x,.int .i64 y]++N) W (Rs (.int .i64 (l x y)) W))(h:Holds encI w m q d)(n:m<w.1.size)(o:b<=d.size)(o:d.size<=1000):
 Calls prog 222 #[.slice (some ⟨m,q,none⟩) d.size ag,.int .i64 0,.int .i64 b,.func (.func g) #[] N] w fun e O=>e= .returned (.tuple #[])/\rl w m q (Sort.insertionSort (mP l) d 0 b) O:=by
 have Q:=aD c h a;clear c h a;go_enter func222,ntmps222;go_wp2
 go_loopw [8] (fun c wr=>∃(i:Nat)(a:Array Int),c= .int .i64 i/\0<i/\i<=b+1/\a.size=d.size/\rl w m q a wr/\(∀t,t<a.size->0<=a[t]!/\a[t]!<48)/\insOuter (mP l) 0 b i a=insOuter (mP l) 0 b 1 d) (fun c _=>b+1-(intOf c).toNat)
 case atStart=>exact⟨1,d,rfl,by omega,by omega,rfl,⟨⟨rfl,rfl,rfl,av _,fun _ _ _=>rfl⟩,Q.b⟩,Q.C,rfl⟩
 obtain⟨i,a,rfl,an,ao,ah,E,R,c⟩:=hrel;have T:=H c;clear c;by_cases X:i<b
 .have ap:(i:Int)<b:=by omega
  have F:=aA E R;clear E R;go_wp2
  go_loopw [9] (fun h o=>∃(j:Nat)(c:Array Int),h= .int .i64 j/\j<=i/\c.size=d.size/\rl w m q c o/\(∀t,t<c.size->0<=c[t]!/\c[t]!<48)/\insInner (mP l) 0 j c=insInner (mP l) 0 i a) (fun h _=>(intOf h).toNat)
  case atStart=>exact⟨i,a,rfl,av _,ah,F.a,F.B,rfl⟩
  obtain⟨j,c,rfl,aq,aa,o,s,I⟩:=hrel;have ab:=aW n o.gr.size;by_cases ai:j=0
  .subst ai;have h:=aD I o s;clear I o s
   go_wp2_with fail
   refine bV (by kernel_rfl) ?_
   repeat(first|go_big_quiet_step (fail)|quiet_step (fail))
   refine qn fun aj u=>?_;have p:=H (h.b.Z u ab);clear u;go_wp2;exact⟨⟨i+1,c,by go_num,by omega,by omega,aa,p.y,h.C,by rw[<-T.y,insOuter_go _ _ _ _ _ X,<-h.a,insInner_stop _ _ _ _ (.inl (av _))]⟩,by simp[intOf];omega⟩
  obtain⟨a,rfl⟩:∃a,j=a+1:=⟨j-1,by omega⟩
  have⟨x,A⟩:=eX (c[a+1]!);have⟨y,C⟩:=eX (c[a]!);have J:=s (a+1) (by omega);have L:=s a (by omega);rw[<-A]at J;rw[<-C]at L;have ad:wr.cell? ⟨m,q+(a+1),none⟩=some x:=by rw[A];exact(o.row (a+1) (by omega)).1
  have ae:wr.cell? ⟨m,q+a,none⟩=some y:=by rw[C];exact(o.row a (by omega)).1
  have ak:=fun d n=>bO ad d n;have al:=fun d n=>bO ae d n;have M:∀d n,Calls prog g (#[.int .i64 x,.int .i64 y]++N) (Go.Sort.grow (redrawn wr d) n) fun e O=>e= .returned (.int .i64 (l x y))/\Below (Go.Sort.grow (redrawn wr d) n) (Go.Sort.grow (redrawn wr d) n) O:=fun d n=>
   Q.a _ x y ((o.Z (jO wr d n) ab).gr) J.1 J.2 L.1 L.2
  have⟨v,r⟩:=eX (l x y);rw[<-r]at M;have af:mP l c[a+1]! c[a]! =decide (v<0):=by rw[<-A,<-C,r];rfl
  have h:=dC I o s af A C;clear I o s ad ae J L A C af r
  go_wp2_with fail
  have:(a:Int)+1<d.size:=by omega
  have:(a:Int)<d.size:=by omega
  have:((a:Int)+1).toNat=a+1:=by omega
  refine bV (by kernel_rfl) ?_
  repeat(first|go_big_quiet_step (first|(go_at_fn g;with_reducible exact aX (M _ _)))|quiet_step (first|(go_at_fn g;with_reducible exact aX (M _ _))))
  refine qn fun aj u=>?_;have p:=H (h.b.Z u ab);clear u ak al M;by_cases r:v<0
  .have:=(p.y.row (a+1) (by omega)).1;have:=(p.y.row a (by omega)).1;have:=(p.y.row (a+1) (by omega)).2;have:=(p.y.row a (by omega)).2;go_wp2;go_region
   all_goals go_wp2
   refine⟨⟨a,swp c (a+1) a,rfl,by omega,by rw[size_swp];exact aa,p.y.swap (by omega),afJ (P:=fun z=>0<=z/\z<48) (by omega) (by omega) (by omega) h.c,?_⟩,by simp[intOf]⟩;have s:=insInner_go (mP l) 0 (a+1) c (by omega) (h.d.t (fB r));rw[<-h.a,s]
   first|done|rfl
  have o:=H r;clear r;have:=o.y;go_wp2;refine⟨⟨i+1,c,by go_num,by omega,by omega,aa,p.y,h.c,?_⟩,by simp[intOf];omega⟩;rw[<-T.y,insOuter_go _ _ _ _ _ X,<-h.a,insInner_stop _ _ _ _ (.inr (h.d.t (gX o.y)))]
 have:¬(i:Int)<b:=by omega
 have F:=H E;clear E R;go_wp2
 go_end0
 exact⟨rfl,by unfold Sort.insertionSort;rw[<-T.y,insOuter_stop _ _ _ _ _ X];exact F.y⟩
def agA(cf)(g:Nat)(cb)(f off cap)(d:Array Int)(w)(m:∀args w,(callFunc g args).run prog w= .ok (.enter g args) w)(c:∀i,i<d.size->0<=d[i]!/\d[i]!<48)
 (h:∀W(x y:Int),w.grownBy W (some f)->0<=x->x<48->0<=y->y<48->Calls prog g (#[.int .i64 x,.int .i64 y]++cb) W (Rs (Value.int .i64 (cf x y)) W))(j:Holds encI w f off d)(n:f<w)(l:d.size<20):
 Calls prog 176 #[.slice (some ⟨f,off,none⟩) d.size cap,.int .i64 d.size,.func (.func g) #[] cb] w fun e o=>e=(Value.tuple #[])/\rl w f off (Sort.insertionSort (mP cf) d 0 d.size) o:=by
 have l:=acb cf g cb f off cap d.size d w m c h j n (av _) (by omega);clear h j c;go_enter func176,ntmps176;have:¬(20:Int)<=d.size:=by omega
 have:¬(20:Int)<d.size:=by omega
 go_wp2
 go_loopw [7,8] (fun a b wr=>a= .int .i64 0/\b= .int .i64 20/\wr=w) (fun _ _ _=>0)
 case atStart=>exact⟨rfl,rfl,rfl⟩
 obtain⟨rfl,rfl,rfl⟩:=hrel
 go_wp2_with fail
 refine l.st fun h c=>?_;have j:=H c;clear c l;go_wp2
 go_loopw [6] (fun a c=>a= .int .i64 20/\c=h) (fun _ _=>0)
 case atStart=>exact⟨rfl,rfl⟩
 go_wp2
 go_end0
 exact⟨rfl,j.y⟩
def aaB(cf)(g:Nat)(cb)(f off cap)(d:Array Int)(w)(j:∀args w,(callFunc g args).run prog w= .ok (.enter g args) w)(a:∀i,i<d.size->0<=d[i]!/\d[i]!<48)
 (b:∀W(x y:Int),w.grownBy W (some f)->0<=x->x<48->0<=y->y<48->Calls prog g (#[.int .i64 x,.int .i64 y]++cb) W (Rs (Value.int .i64 (cf x y)) W))(c:Holds encI w f off d)(l:f<w)(m:d.size<20):
 Calls prog 109 #[.slice (some ⟨f,off,none⟩) d.size cap,.func (.func g) #[] cb] w fun e n=>e=(Value.tuple #[])/\rl w f off (Sort.insertionSort (mP cf) d 0 d.size) n:=by
 have h:=agA cf g cb f off cap d w j a b c l m;clear b c a;go_enter func109,ntmps109
 go_wp2_with fail
 refine h.st fun c a=>?_;have b:=H a;clear a h;go_wp2
 go_end0
 exact⟨rfl,b.y⟩
end
def iA(x y:Int):Int:=if x<y then-1 else if y<x then 1 else 0
def uU(f:Rl.Rows)(x:Int):Int:=((Bs.cZ (f x.toNat)).length:Nat)
def sD(f:Rl.Rows)(x y:Int):Int:=iA (uU f y) (uU f x)
def Tb(x:Int)(w):Calls prog 177 #[x] w fun e a=>e=false/\a=w:=by
 go_enter func177,ntmps177;go_wp2;go_ret;exact⟨by simp,rfl⟩
def Qz(x y:Int)(w):Calls prog 111 #[x,y] w fun e c=>e=(Value.int .i64 (iA x y))/\c=w:=by
 have⟨R,b⟩:=eX (iA x y);rw[<-b];have a:=H b;go_enter func111,ntmps111
 go_wp2_with fail
 refine(Tb _ _).m ?_;rintro e f ⟨rfl,rfl⟩
 go_wp2_with fail
 refine(Tb _ _).m ?_;rintro e f ⟨rfl,rfl⟩;by_cases h:x<y
 .go_wp2;go_ret;exact⟨by rw[a.y];unfold iA;rw[aq h];rfl,rfl⟩
 by_cases g:y<x
 .go_wp2;go_ret;exact⟨by rw[a.y];unfold iA;rw[O (by omega),aq g];rfl,rfl⟩
 go_wp2;go_ret;exact⟨by rw[a.y];unfold iA;rw[O (by omega),O (by omega)];rfl,rfl⟩
def afS(b c:Nat)(f)(x y)(w)(t:0<=x)(u:x<48)(v:0<=y)(z:y<48)(o:w.cell? c=some (.pointer b))(g:∀i,i<48->w.cell? ⟨b,100+i,none⟩=some (.int .u64 (Bv.U (f i))))(l:bh w):
 Calls prog 110 (#[.int .i64 x,.int .i64 y]++#[.pointer c]) w (Rs (Value.int .i64 (sD f x y)) w):=by
 obtain⟨i,rfl⟩:∃i:Nat,x=(i:Int):=⟨x.toNat,by omega⟩
 obtain⟨j,rfl⟩:∃j:Nat,y=(j:Int):=⟨y.toNat,by omega⟩
 have p:=g i (by omega);have:=fun d a=>bO o d a;have:=fun d a=>bO p d a;have:=fun d a=>bO (g j (by omega)) d a;have q:∀(s:BitVec 64) d a,Calls prog 112 #[.int .u64 (Bv.U s)] (Go.Sort.grow (redrawn w d) a) fun e r=>e=(Value.int .i64 (Bs.cZ s))/\Below ↑(Go.Sort.grow (redrawn w d) a) (Go.Sort.grow (redrawn w d) a) r:=fun s d a=>
  have m:=l.Z (jO w d a) l.lt
  afh s _ m m.lt
 have⟨R,n⟩:=eX (sD f i j);rw[<-n];have:(i:Int)<48:=by omega
 have:(j:Int)<48:=by omega
 go_enter func110,ntmps110
 go_wp2_with fail
 refine bV (by kernel_rfl) ?_
 repeat(first|go_big_quiet_step (first|(go_at_call 112;with_reducible exact aX ((H q).y _ _ _))|(go_at_call 111;exact aX ((Qz _ _ _).m (fun _ _ h=>⟨h.1,by rw[h.2];exact aP _ _⟩))))|quiet_step (fail))
 refine qn fun A l=>?_;go_wp2;go_ret;exact⟨by rw[(H n).y];rfl,(H l).y⟩
def vt(f g:Rl.Rows)(l:List Nat):Bool:=l.all fun i=>f i==g i
def C2(n m:Int)(f g:Rl.Rows):Bool:=n==m&&vt f g (List.range 48)
def Rk(n)(f)(i)(a:i<48):((ar n f).extract 1 49)[i*1]? =some (.int .u64 (Bv.U (f i))):=by
 rw[CX,Array.getElem?_extract,aq (by rw[lY];omega),CE _ _ _ a]
def OA(n)(f)(w):(part 51 (ar n f) 1).run prog w= .ok ((ar n f).extract 1 49) w:=by kernel_rfl
def QV(n)(f)(w):(part 3 (ar n f) 0).run prog w= .ok n w:=by kernel_rfl
def ZQ:prog.underlying 50=some (.int .u64):=by kernel_rfl
def agY:prog.underlying 3=some (.int .i64):=by kernel_rfl
def N5(d)(n m)(f g)(w):∀(is:List Nat),(∀i∈is,i<48)->
 (Op.eqItems (d+1) 50 1 ((ar n f).extract 1 49) ((ar m g).extract 1 49) is).run prog w= .ok (vt f g is) w
 |[],_=>by simp[Op.eqItems,vt]
 |i::is,h=>by
  have a:=h i rX;simp only[Op.eqItems,eD,Ja w _ _ _ (Rk n f i a),Ja w _ _ _ (Rk m g i a),eY,run_equalIn_int w d _ .u64 .u64 _ _ ZQ];have e:(Bv.U (f i)==Bv.U (g i))=(f i==g i):=by
   rw[kG,fg,fg,Bv.SX]
  rw[e];cases b:f i==g i
  .simp[vt,b]
  simp only[Ey,I2,if_false,(N5 d n m f g w is (fun j c=>h j (kU _ c)))];simp[vt,b]
def Vt:(prog.fieldsOf 53).toList.map (fun f=>(f.name,f.type,f.offset))=[("N",3,0),("To",51,1)]:=by kernel_rfl
def acy(n m)(f g)(d)(w):(Op.equalIn (d+3) 53 (ar n f) (ar m g)).run prog w= .ok (C2 n m f g) w:=by
 rw[show d+3=(d+2)+1 from rfl,run_equalIn_struct w (d+2) _ _ _ gT (by kernel_rfl)];have e:=Vt;generalize (prog.fieldsOf 53).toList=fs at e⊢;obtain⟨a,b,rfl⟩:∃a b,fs=[a,b]:=by
  obtain _|⟨a,_|⟨b,_|⟨c,t⟩⟩⟩:=fs
  .grind
  .grind
  .grind
  grind
 simp only[nR,pR,L6,Prod.mk.injEq,BZ]at e;obtain⟨⟨h,j,l⟩,o,p,q⟩:=e;simp only[Op.eqFields,h,j,l,o,p,q];rw[aq (dr rfl),aq (dr rfl)];simp only[eD,QV,OA,eY,run_equalIn_int w (d+1) _ .i64 .i64 _ _ agY];unfold C2;cases u:n==m
 .simp
 have⟨v,r⟩:=Qy.1 (show(prog.info? 50).isSome=true by kernel_rfl);simp only[Ey,I2,if_false,eD,QV,OA,eY];rw[show d+2=(d+1)+1 from rfl,run_equalIn_array w (d+1) _ _ L5 r];rw[show prog.cellsOf 50=1 by kernel_rfl,N5 d n m f g w _ (fun i s=>fS.1 s)];cases vt f g (List.range 48)<;>simp
def R9(n m)(f g)(w):(binOp .eql 53 (ar n f) (ar m g)).run prog w= .ok (C2 n m f g) w:=by
 rw[run_eql_struct,acy n m f g 9997];rfl
def Lu(f:Rl.Rows)(a:List Nat):Array Int:=Sort.insertionSort (mP (sD f)) (ints a).toArray 0 a.length
def qV(a:Nat->List Nat):Nat->Rl.Rows
 |0=>E
 |l+1=>(kg (qV a l) (a l)).1
def JK(c:List aN)(N:Nat)(f:Rl.Rows)(mem:Nat->UInt8)(b:Nat->List Nat):Prop:=
 (∀l,l<N->(bI c l).length<20/\Lu f (bI c l)=(ints (b l)).toArray/\(b l).length=(bI c l).length/\(b l)[0]? =some l/\(∀a∈b l,a<c.length)/\mem l=qF c (oA (b l)))/\
 (∀i,i<48->qV b N i=f i)/\∀l,N<=l->l<6->mem l=0
section
attribute [local irreducible] Code.wp wpList Oper.wp wpQuiet
attribute [local go_sem] Bv.fE Bv.fO Bv.fA Bv.fL Bv.fC Bv.gn Bv.fP Bv.fQ
def nB(m:Nat->UInt8)(i:Nat):Value:= .int .u8 (Y (m i))
def zI(m:Nat->UInt8)(l:Nat):Nat->UInt8:=fun i=>if i<l then m i else 0
def aai{W}{base n:Nat}{v}{xs:List Nat}(h:W.ownsRow base 3 1 v n (nums xs))(l:n=xs)(m:0<n):∃g a,v= .slice (g:Nat) n a/\base<=g/\g<W.1.size/\Sort.Holds encI W g 0 (ints xs).toArray:=by
 obtain⟨_,b⟩|⟨g,a,o,b,f,c,_⟩:=h.2
 .omega
 refine⟨g,a,b,f,(gS.1 c).1,fun j i=>⟨?_,Gr W g _ _ _ c⟩⟩;have e:j<xs:=by simpa[ints]using i
 have:=h.cells (g:=g) (by rw[b];rfl) j (xs[j]:Int) (by unfold nums;rw[dG,aI e];rfl);rw[eV]at this;rw[this];simp[ints,e,encI]
def ZN{W}{g}{xs}(h:Sort.Holds encI W g 0 (ints xs).toArray)(a:g<W):fK W g (ints xs):=fun b=>by
 refine⟨g,0,rfl,a,fun i c=>?_⟩;rw[(h i (by omega)).1]
 grind
def TV{xs}{i v:Nat}(h:xs[i]? =v):(ints xs).toArray[i]! =(v:Int):=by simp[ints,h]
def aa8(m)(l i):aU (nB (zI m l)) l (m l) i=nB (zI m (l+1)) i:=by
 unfold aU nB zI
 grind
def abZ(n)(f g)(i)(a:i<49):jI (dz n f) 0 g i=dz n g i:=by
 unfold jI dz
 grind
def kM{P:Program}{ops}{C}{Q}{o}{rest}{a}(c:Region.wanted o (yielded ops a.tmps)=true)(ty)(x)(e:o.op= .load ty x)(b k m:Nat)(f:a.eval x= .pointer (some ⟨b,k,none⟩))
 (g)(d:TypeDesc)(i:∀w,C w->w.rangeAt b k ((List.range m).map g))(j:P.underlying ty=d)(l:d.isRow=true)(n:(P.info? ty).map (·.size)=m)(h:wpQuiet P ops C Q rest (a.put o.dst (J m g))):wpQuiet P ops C Q (o::rest) a:=
 Cd c fun K n=>⟨_,fun w p=>by
  unfold Oper.quietAt execOp;simp only[e,f,Instr.loadAt,Instr.sureAddr,eD,eZ,eY,qu w b k ty ((List.range m).map g) d (i w p) j l (by grind)];exact⟨rfl,rfl⟩,n _ h⟩
def Dn{w}{b n}{t}{g}(h:aj w b t n g)(o m)(c:o+m<=n):∀a,(∃p:Regrown,a=Go.Sort.grow (redrawn w p.d) p.os)->a.rangeAt b o ((List.range m).map fun i=>g (o+i)):=by
 rintro a ⟨p,rfl⟩;exact(h.Z (jO w p.d p.os) h.lt).range o m c
def BC:prog.underlying 56=some (.array 6 5):=by kernel_rfl
def xx:(prog.info? 56).map (·.size)=some 6:=by kernel_rfl
def abv(m)(w):(binOp .eql 56 (J 6 (nB m)) (J 6 (nB m))).run prog w= .ok (.bool true) w:=by
 have a:=Fl.EN (List.replicate 6 (some .u8)) (nB m) (fun i=> .int .u8 (Y (m i))) (fun i k c=>by
  have:=(Ht.1 (cB c)).2;subst this;exact xn _)
 have⟨b,c,e,_⟩:=Fl.zh (P:=prog) w (t:=56) (ks:=List.replicate 6 (some .u8)) (d:=5) (m:=5) (xs:=J 6 (nB m)) (ys:=J 6 (nB m)) (by kernel_rfl) (by kernel_rfl) (dr rfl) (by kernel_rfl) (by kernel_rfl) a a
 grind
structure tY(w:World)(rb mb bx:Nat)(n:Nat)(b:Nat)(rk:Nat->List Nat)(mem:Nat->UInt8)(l:Nat)(W:World):Prop where
 y:Below w w W
 rel:aG W rb n (qV rk l)
 mem:aj W mb 56 6 (nB (zI mem l))
 box:Boxed W bx 102 (.pointer b)
def tY.Z{w W W'}{rb mb bx n b l}{rk}{mem}(h:tY w rb mb bx n b rk mem l W)(f:Below W W W'):tY w rb mb bx n b rk mem l W':=
 ⟨h.y.t (f.m h.y.size),h.rel.Z f h.rel.lt,h.mem.Z f h.mem.lt,(f.block _ h.box.lt).t h.box⟩
def tY.K{w W W'}{rb mb bx n b l q}{rk}{mem}(h:tY w rb mb bx n b rk mem l W)(f:W.grownBy W' (some q))(g:w<=q)(i:rb≠q)(o:mb≠q)(r:bx≠q):tY w rb mb bx n b rk mem l W':=
 ⟨h.y.b f h.y.size (fun j e=>by grind),h.rel.K f (fun e=>by grind),h.mem.K f (fun e=>by grind),h.box.K f (fun e=>by grind)⟩
def XG(b:Nat)(m:XE)(f:List aN)(A:Option Addr)(c N:Nat)(o:Nat->List Nat)(w:World)(aV:m.n=(f.length:Int))(bd:f.length<=48)(be:N<=6)(n:aj w b 60 333 (xG m (.slice A f.length c)))(u:eG w A f)(z:JK f N (m.row 2) m.mem o)(s:bh w):
 Calls prog 66 #[.pointer b,.int .i64 N] w (Rs (.bool true) w):=by
 have aW:=s.lt;have ao:=n.C 0 (dr rfl);rw[nV]at ao;have am:=n.lt;have:=jk;have:=y9;have I:Boxed ((w.alloc (.cells #[.pointer b] 102)).alloc (.cells (ar 0 E) 53)) w.1.size 102 (.pointer b):=(dE w _ _).alloc _;have t:=aG.new (w.alloc (.cells #[.pointer b] 102)) 0 E;rw[cT]at t;have C:=dH n u z s I t (show Below w.1.size w ((w.alloc (.cells #[.pointer b] 102)).alloc (.cells (ar 0 E) 53))from(ba w _).alloc (by simp) _);clear n u z s I t;go_enter func66,ntmps66
 go_wp2_with ((refine fY rfl (.tmp 5) (.tmp 16) rfl (w.1.size+1) f.length 0 E E rfl rfl C.f ?_;intro t n s;have z:=C.e.K s (sn (by omega));have I:=C.G.b s (by simp;omega) (fun j e=>by cases e;omega);have:=n.lt;have u:=aD n z I;clear n z I s))
 have n:tY w (w.1.size+1) t.1.size w.1.size f.length b o m.mem 0 (t.alloc (.cells #[.int .u8 0,.int .u8 0,.int .u8 0,.int .u8 0,.int .u8 0,.int .u8 0] 56)):=by
  refine⟨u.C.alloc (by omega) _,u.a.alloc _,?_,u.b.alloc _⟩;refine aj.dq _ _ _ _ _ ?_;rfl
 have aX:=H n;clear n;have⟨aZ,a0,ap,au,a1⟩:=eQ Bn
 go_loopw [18] (fun i wr=>∃l:Nat,l<=N/\i= .int .i64 l/\tY w (w.1.size+1) t.1.size w.1.size f.length b o m.mem l wr) (fun i _=>N-(intOf i).toNat)
 case atStart=>exact⟨0,aQ _,rfl,aX.y⟩
 obtain⟨l,bf,rfl,u⟩:=hrel;have⟨ae,a2⟩:=eX wr;subst a2;have:=u.mem.lt;by_cases a3:l<N
 .have bg:(l:Int)<N:=by omega
  have av:=u.box.C;have:=(u.y.C (p:=b) am).t ao;have aw:=H u;have aF:=u.y.size;clear u;go_wp2
  go_loopw [8,26] (fun v i wr=>∃(k:Nat),k<=f.length/\i= .int .i64 k/\wr.ownsRow ae.1.size 3 1 v (il f k l).length (nums (il f k l))/\Below ae ae wr) (fun _ i _=>f.length-(intOf i).toNat)
  case atStart=>exact⟨0,aQ _,rfl,gI _ _ _ _,aP _ _⟩
  obtain⟨k,bi,rfl,L,I⟩:=hrel;have⟨bl,aH,ax⟩:=bo L (dr rfl);subst ax;have⟨af,a4⟩:=eX wr;subst a4;have aJ:=vy f k l;have⟨ai,s⟩:=eX (il f k l).length;rw[<-s]at L aJ⊢;have ay:=I.size;by_cases a5:k<f.length
  .obtain⟨x,X⟩:∃x,f[k]? =some x:=⟨_,aI a5⟩
   obtain⟨aa,ab,rfl,az,ag⟩:=C.b.row (aw.y.y.t (I.m aF)) X;have bm:(k:Int)<f.length:=by omega
   have P:=Kd X l;by_cases T:x.ev.kind=2
   .have ah:(x.ev.kind==2)=true:=by simp[T]
    rw[ah,kQ]at P;by_cases ak:x.ev.loc.toNat=l
    .rw[aq (by simp[ak])]at P;have n:=dH I L ag P T ak s;clear I L X ag P T ah ak s
     go_wp2_with (first|(refine l4 rfl (.tmp 29) rfl aa (ab+k*7) rfl x n.c (h:=?_))|(refine l6 rfl (.tmp 10) (.tmp 30) rfl x rfl rfl (h:=?_);intro z Q R;have aB:z.cell? ⟨af.1.size,1,none⟩=some (.int .u8 2):=(Q.C 1 (dr rfl)).t (by rw[show a6 x 1= .int .u8 (Y x.ev.kind)from rfl,n.e];rfl);have aE:z.cell? ⟨af.1.size,2,none⟩=some (.int .u8 (l:Int)):=(Q.C 2 (dr rfl)).t (by rw[show a6 x 2= .int .u8 (Y x.ev.loc)from rfl];unfold Y;rw[n.f]);have al:=bP n.b R;have aK:=R.size;have ad:=H R;clear Q R)|(at_builtin;refine qJ _ rfl _ _ 65 rfl ae.1.size 3 aZ _ 1 8 underlying65 a0 ap au a1 rfl (dr rfl) _ _ _ rfl (al.alloc _) (z.1.size:Nat) 1 1 [.int .i64 k] rfl rfl (kN _ _ _) (by simp[Value.oneCell']) (by unfold maxLen;omega) (by omega) (by simp;omega) ?_;intro aL w9 an aC aM))
     refine⟨⟨k+1,by omega,by go_num,?_,?_⟩,by simp[intOf];omega⟩
     .rw[n.d,dc,<-n.G,pG];exact an
     exact((n.a.t (ad.y.m ay)).alloc (by omega) _).b aC (by simp;omega) (fun j e=>(n.b.lt j e).1)
    rw[O (by simp[ak])]at P;have⟨an,al⟩:=eX (Y x.ev.loc);have:0<=an:=by rw[al];exact iW _
    have:an<256:=by rw[al];exact pC _
    have a7:(an==(l:Int))=false:=by rw[qd,al];unfold Y;omega
    have n:=bM I L ag P s;have aK:=aA T al;clear I L X ag P T ah ak s al
    go_wp2_with (first|(refine l4 rfl (.tmp 29) rfl aa (ab+k*7) rfl x n.c (h:=?_))|(refine l6 rfl (.tmp 10) (.tmp 30) rfl x rfl rfl (h:=?_);intro z Q R;have aB:z.cell? ⟨af.1.size,1,none⟩=some (.int .u8 2):=(Q.C 1 (dr rfl)).t (by rw[show a6 x 1= .int .u8 (Y x.ev.kind)from rfl,aK.a];rfl);have:z.cell? ⟨af.1.size,2,none⟩=some (.int .u8 an):=(Q.C 2 (dr rfl)).t (by rw[aK.B];rfl);have ad:=H R;clear Q R))
    exact⟨⟨k+1,by omega,by go_num,by rw[n.d,<-n.E];exact bP n.b ad.y,n.a.t (ad.y.m ay)⟩,by simp[intOf];omega⟩
   have ah:(x.ev.kind==2)=false:=by simp[T]
   have a7:(Y x.ev.kind==2)=false:=by
    rw[qd];intro e;exact T (lQ.1 (e.t (show(2:Int)=Y 2 from rfl)))
   rw[ah,Bc,O (by simp)]at P;have n:=bM I L ag P s;clear I L X ag P T ah s
   go_wp2_with (first|(refine l4 rfl (.tmp 29) rfl aa (ab+k*7) rfl x n.c (h:=?_))|(refine l6 rfl (.tmp 10) (.tmp 30) rfl x rfl rfl (h:=?_);intro z Q R;have:z.cell? ⟨af.1.size,1,none⟩=some (.int .u8 (Y x.ev.kind)):=Q.C 1 (dr rfl);have ad:=H R;clear Q R))
   exact⟨⟨k+1,by omega,by go_num,by rw[n.d,<-n.E];exact bP n.b ad.y,n.a.t (ad.y.m ay)⟩,by simp[intOf];omega⟩
  obtain rfl:k=f.length:=by omega
  have:¬(f.length:Int)<f.length:=by omega
  have⟨ag,aL,aM,ah,ak,aO⟩:=C.c.1 l a3;have al:ai=(o l).length:=by rw[s,aM];rfl
  have a8:0<(o l).length:=(bL.1 ah).1;have⟨g,bn,ax,bp,a9,aR⟩:=aai L s (by omega);injection ax with e1 _ bb;subst e1 bb;have:ai<20:=by rw[s];exact ag
  have T:=aw.y.y.t (I.m aF);have aB:=aw.y.Z I;have aC:=aaB (sD (m.row 2)) 110 #[.pointer (w.1.size:Nat)] g 0 aH (ints (bI f l)).toArray af (gH func110 (by kernel_rfl) rfl) (fun i Q=>by
   have P:i<(bI f l).length:=by simpa[ints]using Q
   have:=(Bj.1 (oM P)).1;simp[ints,P];omega)
   (fun W x y P ad aE ap au=>by
     have R:Below w.1.size w W:=T.b P T.size (fun j e=>by cases e;omega);have aS:=C.a.Z R am;exact afS b w.1.size (m.row 2) x y W ad aE ap au ((aB.box.K P (sn (by omega))).C) (fun i Q=>DN aS 2 i (dr rfl) Q) (C.d.Z R aW))
   aR a9 (by simpa[ints]using ag)
  have:0<ai:=by omega
  obtain⟨M,rfl⟩:∃M,ai=M+1:=⟨ai-1,by omega⟩
  have aS:(ints (bI f l)).toArray.size=M+1:=by rw[s];simp[ints];rfl
  rw[aS,show Sort.insertionSort (mP (sD (m.row 2))) (ints (bI f l)).toArray 0 (M+1)=(ints (o l)).toArray by rw[<-aL,s];rfl]at aC;obtain⟨P,ad⟩:∃P,(o l)[M]? =some P:=⟨_,aI (by omega)⟩
  have bc:=ak P (cB ad);obtain⟨y,aE⟩:∃y,f[P]? =some y:=⟨_,aI bc⟩
  have aT:m.mem l=y.ev.val:=by rw[aO];unfold qF oA;rw[<-al,Ej,bj,ad];show(match f[P]? with|some x=>x.ev.val|none=>0)=_;rw[aE]
  obtain⟨aa,ab,rfl,az,aU⟩:=C.b.row T aE;have R:=jR T aB al ah ak ad aT aU;clear I L aR T aB aS aL aM ah ak aO al a8 ag aJ s ad aE aT aU
  go_wp2_with fail
  refine aC.st fun z s=>?_;clear aC;have I:=R.b.K s.gr (by omega) (by omega) (by omega) (by omega);have:=s.gr.size;have:=I.rel.lt;have ag:=ZN s.row (by omega);have L:=R.c;have ah:=(s.row 0 (by simp[ints];omega)).1;rw[TV R.d]at ah;have T:=(s.row M (by simp[ints];omega)).1;rw[TV R.f]at T;have ad:=QT (w.1.size+1) 0 49 53 (dz f.length (qV o l)) (qV o l) g aH (o l) z (by have:=I.rel;unfold aG at this;unfold aj;rw[<-nN];exact this) (dr rfl) (fun i Q=>by unfold dz;rw[O (by omega),show 0+1+i-1=i by omega]) ag (fun a e=>by cases e;exact⟨by show g≠_;omega,by show g<_;omega⟩) (fun x X=>by have:=R.e x X;omega) (by omega);rw[<-L]at ad;have ak:=aD I T L;have:(0:Int)<(M:Int)+1:=by omega
  clear I ag s T L
  go_wp2_with fail
  refine ad.m ?_;rintro e s ⟨rfl,al,I⟩;clear ad;have L:tY w (w.1.size+1) t.1.size w.1.size f.length b (fun q=>o q) m.mem l z:=ak.a;have aB:aG s (w.1.size+1) f.length (qV o (l+1)):=by
   have:=al.congr (h:=dz f.length (kg (qV o l) (o l)).1) (fun i Q=>abZ _ _ _ i Q);unfold aj at this;rw[<-nN]at this;exact this
  have T:Below w.1.size w s:=L.y.b I L.y.size (fun j e=>by cases e;omega);have ad:=L.mem.K I (sn (by omega));have ag:=L.box.K I (sn (by omega));have d1:=ag.C;have d2:=(T.C (p:=b) am).t ao;have d3:s.cell? ⟨g,M,none⟩=some (.int .i64 (P:Int)):=by
   have h:=ak.b;rw[cK]at h;rw[uW (w:=z) (a:=⟨g,M,none⟩) (I.block g (by omega) (sn (by omega)))];exact h
  have d4:s.cell? ⟨aa,ab+P*7+3,none⟩=some (.int .u8 (Y (m.mem l))):=(T.C (p:=⟨aa,ab+P*7+3,none⟩) az).t ((R.a.C (p:=⟨aa,ab+P*7+3,none⟩) az).s.t ((R.H 3 (a6 y 3) rfl).t (by rw[R.g];rfl)));have d5:=ad.C l (by omega);have d6:=ad.free l;have:IntKind.i64.wrap (M:Int)=(M:Int):=by rw[nk];omega
  have:(M:Int)+1-1=(M:Int):=by omega
  have:(M:Int)<(M:Int)+1:=by omega
  have:(P:Int)<(f.length:Int):=by omega
  have:(l:Int)<6:=by omega
  have z:=aY aB T ad ag;clear al I L aB T ad ag ah;go_wp2;go_still_tail 15,(by kernel_rfl)
  change wpList _ _ _ _ _ s.drew;have:s.drew.cell? ⟨t.1.size,l,none⟩=some (nB (zI m.mem l) l):=d5;have:s.drew.frozen? ⟨t.1.size,l,none⟩=false:=d6;have I:=aY z.a.drew (show Below w.1.size w s.drew from⟨z.b.os,z.b.tape,z.b.output,z.b.size,z.b.block⟩) z.c.drew (show Boxed s.drew w.1.size 102 (.pointer b)from z.D);clear d1 d2 d3 d4 d5 d6;generalize s.drew=aO at*
  go_step
  go_wp2;refine⟨⟨l+1,by omega,by go_num,?_⟩,by simp[intOf];omega⟩;exact⟨I.b.setCell (p:=⟨t.1.size,l,none⟩) (by show w.1.size<=t.1.size;omega) _,I.a.other _ _ (by show w.1.size+1≠t.1.size;omega),(I.c.set l _).congr (fun i _=>aa8 _ _ _),(cP _ _ _ _ (by show w.1.size≠t.1.size;omega)).t I.D⟩
 obtain rfl:l=N:=by omega
 have:¬(l:Int)<l:=by omega
 have av:=u.box.C;have L:=C.a.Z u.y am;have T:aG ae (w.1.size+1) f.length (m.row 2):=by
  have h:=u.rel;unfold aG at h⊢;rw[nN]at h⊢;rw[<-gP (g:=dz f.length (qV o l)) (h:=dz f.length (m.row 2)) fun i Q=>?_]
  .exact h
  unfold dz;by_cases e:i=0
  .rw[aq e,aq e]
  rw[O e,O e,C.c.2.1 (i-1) (by omega)]
 have ad:aj ae t.1.size 56 6 (nB m.mem):=u.mem.congr fun i Q=>by
  unfold nB zI;by_cases e:i<l
  .rw[aq e]
  rw[O e,C.c.2.2 i (by omega) Q]
 have ag:=H (B4 T);have ah:=H (Dn L 99 49 (dr rfl));have al:=H (Dn ad 0 6 (dr rfl));have aB:=H (Dn L 327 6 (dr rfl));have aC:=fun d aE=>bO av d aE;have:∀w,(binOp .eql 53 (.agg (ar f.length (m.row 2))) (.agg (ar f.length (m.row 2)))).run prog w= .ok (.bool true) w:=fun w=>by rw[R9];simp[C2,vt]
 have:=abv m.mem;have aJ:J 49 (fun i=>xG m (.slice A f.length c) (99+i))=ar f.length (m.row 2):=by rw[<-aV];exact GJ m _ (r:=2) (dr rfl)
 have aL:J 6 (fun i=>nB m.mem (0+i))=J 6 (nB m.mem):=gP fun i _=>by rw[cK]
 have aM:J 6 (fun i=>xG m (.slice A f.length c) (327+i))=J 6 (nB m.mem):=gP fun i _=>L9 _ _ _;have Q:=H u;clear u L T ad av
 go_wp2_with fail
 refine bV (by kernel_rfl) ?_
 repeat(first|(refine DF rfl (.tmp 5) rfl (w.1.size+1) f.length (m.row 2) rfl ag.y ?_)|(refine kM rfl 53 (.tmp 75) rfl b 99 49 rfl _ _ ah.y gT rfl pq ?_;rw[aJ])|(refine kM rfl 56 (.tmp 6) rfl t.1.size 0 6 rfl _ _ al.y BC rfl xx ?_;rw[aL])|(refine kM rfl 56 (.tmp 83) rfl b 327 6 rfl _ _ aB.y BC rfl xx ?_;rw[aM])|go_big_quiet_step (fail)|quiet_step (fail))
 refine qn fun L t=>?_;have u:=H (Q.y.y.t (t.m Q.y.y.size));clear t aC;go_wp2;go_ret;exact⟨rfl,u.y⟩
end
structure Cy(N:Nat)(c:gO)(rk:Nat->List Nat):Prop where
 F:zJ N c.F
 num:c.x.n=(c.F.length:Int)
 rows:∀r,r<6->Rl.Ok c.F.length (c.x.row r)
 po:∀i,i<48->c.x.row 0 i=oP c.F i
 rf:LP c.F (c.x.row 1)
 co:JK c.F N (c.x.row 2) c.x.mem rk
 tz:Jw c.F (c.x.row 0) (c.x.row 3) (c.x.row 4) (c.x.row 5)
def WB{n}{f g}(h:∀i,i<48->f i=g i):ar n f=ar n g:=by
 rw[nN,nN];refine gP fun i a=>?_;unfold dz
 grind
def Ym(c:gO)(A:Option Addr)(l N:Nat)(Q:Nat->List Nat)(w:World)(b:Cy N c Q)(o:eG w A c.F)(q:bh w):
 Calls prog 26 #[.agg (J 333 (xG c.x (.slice A c.F.length l)))] w (Rs (.bool true) w):=by
 obtain⟨a,h⟩:=c;dsimp only at b o⊢;have s:h.n=(a.length:Int):=b.num;have v:a.length<=48:=b.F.len;have:1<=N:=b.F.pg;have ad:N<=6:=b.F.iG;have⟨w0,g⟩:=eX (w.alloc (.cells (J 333 (xG h (.slice A a.length l))) 60));have m:aj w0 w.1.size 60 333 (xG h (.slice A a.length l)):=by rw[g];exact aj.new _ _ _ _
 have n:Below w.1.size w w0:=by rw[g];exact ba w _
 have t:=o.Z n (av _);have x:=q.Z n q.lt;have R:=m.C 0 (dr rfl);rw[nV]at R;have u:=m.lt;have f:=bM m t b x n;clear m o t b q x n;go_enter func26,ntmps26
 go_upto_region 1 with fail
 rw[<-g];clear g;have:¬(48:Int)<a.length:=by omega
 have g:=Wg A l N a w0 f.c.F f.b
 go_wp2_with fail
 refine g.st fun ae b=>?_;clear g;have:w.1.size<w0.1.size:=u;have g:=Yt A l N a ae f.c.F (f.b.Z b (av _));have n:=(b.C (p:=(w.1.size:Nat)) u).t R;have:¬(N:Int)<1:=by omega
 have:decide ((6:Int)<N)=false:=gX (by omega);have T:=H b;clear b
 go_wp2_with fail
 refine g.st fun C m=>?_;clear g;have b:=T.y.t (m.m T.y.size);have af:=H b;have ag:=b.size;clear m b n
 go_upto_region 7 with fail
 have⟨W,b⟩:=eX (C.alloc (.cells #[.pointer (some ⟨w.1.size,1,none⟩),.pointer (some ⟨w.1.size,50,none⟩),.pointer (some ⟨w.1.size,99,none⟩),.pointer (some ⟨w.1.size,148,none⟩),.pointer (some ⟨w.1.size,197,none⟩),.pointer (some ⟨w.1.size,246,none⟩)] 145));rw[<-b];have g:Below w0 w0 W:=by rw[b];exact af.y.alloc ag _
 have m:aj W C.1.size 145 6 (fun j=> .pointer (some ⟨w.1.size,1+49*j,none⟩)):=by rw[b];exact aj.dq _ _ _ _ _ rfl
 have X:=aD g m b;clear g m b
 go_loopw [34] (fun i wr=>∃k:Nat,k<=6/\i= .int .i64 k/\Below w0 w0 wr/\aj wr C.1.size 145 6 (fun j=> .pointer (some ⟨w.1.size,1+49*j,none⟩))) (fun i _=>6-(intOf i).toNat)
 case atStart=>exact⟨0,aQ _,rfl,X.a,X.b⟩
 obtain⟨k,al,rfl,n,m⟩:=hrel;by_cases x:k<6
 .have am:(k:Int)<6:=by omega
  have q:=m.C k x;have o:=f.a.Z n u;have g:wr.cell? ⟨w.1.size,1+49*k,none⟩=some (.int .i64 h.n):=(o.C (1+49*k) (by omega)).t (by rw[EE h _ k x]);rw[s]at g;have cs:=(o.C 0 (dr rfl)).t (by rw[nV]);have z:=fun d b=>bO g d b;have E:=fun d b=>bO cs d b;have I:=H (Dn o (1+49*k) 49 (by omega));have L:J 49 (fun i=>xG h (.slice A a.length l) (1+49*k+i))=ar a.length (h.row k):=by rw[<-s];exact GJ h _ x
  have aa:=H (Rl.oC (f.c.rows k x));have t:=aA n m;have ah:=m.lt;clear n m o g cs
  go_wp2_with fail
  refine bV (by kernel_rfl) ?_
  repeat(first|(refine kM rfl 53 (.tmp 48) rfl w.1.size (1+49*k) 49 rfl _ _ I.y gT rfl pq ?_;rw[L])|go_big_quiet_step (first|(go_at_call 63;with_reducible exact aX (lM _ _ _ aa.y _)))|quiet_step (first|(go_at_call 63;with_reducible exact aX (lM _ _ _ aa.y _))))
  refine qn fun ai g=>?_;have y:=aA (t.a.t (g.m t.a.size)) (t.B.Z g ah);clear g z E q;go_wp2;exact⟨⟨k+1,by omega,by go_num,y.a,y.B⟩,by simp[intOf];omega⟩
 obtain rfl:k=6:=by omega
 have:¬(6:Int)<6:=by omega
 have⟨g,ak⟩:=eX wr;subst ak;have o:=f.a.Z n u;have cs:=(o.C 0 (dr rfl)).t (by rw[nV]);have E:=fun d b=>bO cs d b;have I:=H (Dn o 1 49 (dr rfl));have L:J 49 (fun i=>xG h (.slice A a.length l) (1+i))=ar a.length (oP a):=by
  rw[<-WB f.c.po,<-s];exact GJ h _ (r:=0) (dr rfl)
 have:∀w,(binOp .eql 53 (.agg (ar a.length (oP a))) (.agg (ar a.length (oP a)))).run prog w= .ok (.bool true) w:=fun w=>by rw[R9];simp[C2,vt]
 have ab:∀d b,Calls prog 64 #[.slice A a.length l] (Go.Sort.grow (redrawn g d) b) (fun e q=>e= .returned (.agg (ar a.length (oP a)))/\Below (Go.Sort.grow (redrawn g d) b) (Go.Sort.grow (redrawn g d) b) q)/\
  Calls prog 65 #[.pointer (w.1.size:Nat)] (Go.Sort.grow (redrawn g d) b) (fun e q=>e= .returned (.bool true)/\Below (Go.Sort.grow (redrawn g d) b) (Go.Sort.grow (redrawn g d) b) q)/\
  Calls prog 66 #[.pointer (w.1.size:Nat),.int .i64 N] (Go.Sort.grow (redrawn g d) b) (fun e q=>e= .returned (.bool true)/\Below (Go.Sort.grow (redrawn g d) b) (Go.Sort.grow (redrawn g d) b) q)/\
  Calls prog 67 #[.pointer (w.1.size:Nat)] (Go.Sort.grow (redrawn g d) b) (fun e q=>e= .returned (.bool true)/\Below (Go.Sort.grow (redrawn g d) b) (Go.Sort.grow (redrawn g d) b) q):=fun d b=>by
  have M:Below w0 w0 (Go.Sort.grow (redrawn g d) b):=n.t ((jO g d b).m n.size);have O:=f.a.Z M u;have z:=f.b.Z M (av _);have P:=f.d.Z M f.d.lt;exact⟨QK A l a _ v z,adm _ h a A l _ s v O z (f.c.rows 1 (dr rfl)) f.c.rf P,XG _ h a A l N Q _ s v ad O z f.c.co P,Zh _ h a A l _ v O z f.c.tz P⟩
 have q:=H ab;have t:=H n;clear n m o cs ab s
 go_wp2_with fail
 refine bV (by kernel_rfl) ?_
 repeat(first|(refine kM rfl 53 (.tmp 54) rfl w.1.size 1 49 rfl _ _ I.y gT rfl pq ?_;rw[L])|go_big_quiet_step (first|(go_at_call 64;with_reducible exact aX (q.y _ _).1)|(go_at_call 65;with_reducible exact aX (q.y _ _).2.1)|(go_at_call 66;with_reducible exact aX (q.y _ _).2.2.1)|(go_at_call 67;with_reducible exact aX (q.y _ _).2.2.2))|quiet_step (first|(go_at_call 64;with_reducible exact aX (q.y _ _).1)|(go_at_call 65;with_reducible exact aX (q.y _ _).2.1)|(go_at_call 66;with_reducible exact aX (q.y _ _).2.2.1)|(go_at_call 67;with_reducible exact aX (q.y _ _).2.2.2)))
 refine qn fun ai m=>?_;have y:=H (f.E.t ((t.y.t (m.m t.y.size)).m f.E.size));clear m E;go_wp2;go_ret;exact⟨rfl,y.y⟩
def j3(x:aN):Bool:=x.ev.kind==1||x.ev.kind==2
def pt(x y:aN):Bool:=j3 x&&j3 y&&x.ev.loc==y.ev.loc
def afF:aN:=⟨0,jN⟩
def cw(a:List aN)(i:Nat):aN:=a.getD i afF
def jl{a:List aN}{i:Nat}(h:i<a):a[i]? =(cw a i):=by unfold cw;rw[bj,aI h];rfl
section
attribute [local go_sem] Bv.fE Bv.fO Bv.fA Bv.fL Bv.fC Bv.gn Bv.fP Bv.fQ Bv.yl Bv.Aj Bv.wZ Bv.xO
def Dm{P}{ops}{C}{Q}{rest}{a}{d}{ty}(x){tp}{ps af g}(h:wpQuiet P ops C Q (Oper.mk d (.load ty x) tp ps af g::rest) a):wpQuiet P ops C Q (Oper.mk d (.load ty x) tp ps af g::rest) a:=h
structure eu(W:World)(b:Nat)(X:XE)(A:Option Addr)(c:Nat)(F:List aN):Prop where
 cells:∀i,i<333->W.cell? ⟨b,i,none⟩=some (xG X (.slice A F.length c) i)
 ev:eG W A F
 lt:b<W.1.size
def eu.Z{W W'}{b}{X}{A}{c}{F}(h:eu W b X A c F)(f:Below W W W'):eu W' b X A c F:=
 ⟨fun i hi=>(f.C (p:=⟨b,i,none⟩) h.lt).t (h.cells i hi),h.ev.Z f (av _),aW h.lt f.size⟩
def eu.row{W}{b}{X}{A}{c}{F}(h:eu W b X A c F)(r i)(f:r<6)(hi:i<48):W.cell? ⟨b,49*r+2+i,none⟩=some (.int .u64 (Bv.U (X.row r i))):=by
 rw[h.cells _ (by omega),show 49*r+2+i=1+49*r+1+i by omega,xe X _ r i f hi]
def eu.uv{W}{b}{X}{A}{c}{F}(h:eu W b X A c F):W.cell? b=some (.slice A F c):=(h.cells 0 (dr rfl)).t (by rw[nV])
def eu.range{W}{b}{X}{A}{c}{F}(h:eu W b X A c F)(r)(f:r<6):W.rangeAt b (1+49*r) ((List.range 49).map (dz X.n (X.row r))):=by
 intro j v g;have i:j<49:=by grind
 rw[h.cells _ (by omega)];simp[i]at g;rw[<-g];unfold dz;by_cases e:j=0
 .rw[aq e,e];exact cs (EE X _ r f)
 rw[O e,show 1+49*r+j=1+49*r+1+(j-1) by omega,xe X _ r _ f (by omega)]
def eu.of{W}{b}{X}{A}{c}{F:List aN}(h:aj W b 60 333 (xG X (.slice A F c)))(f:eG W A F):eu W b X A c F:=⟨fun i hi=>h.C i hi,f,h.lt⟩
def Dr(b a i j:Nat)(s)(w)(f:i<48)(g:j<64)(h:w.cell? ⟨b,a+1+i,none⟩=some (.int .u64 (Bv.U s))):
 Calls prog 71 #[.pointer (some ⟨b,a,none⟩),.int .i64 i,.int .i64 j] w fun e c=>e=(Bv.G s j)/\c=w:=by
 have:(i:Int)<48:=by omega
 go_enter func71,ntmps71;go_wp2;go_ret;exact⟨rfl,rfl⟩
def FG(x)(w):Calls prog 113 #[(J 7 (a6 x))] w (Rs (j3 x) w):=by
 have e1:(Y x.ev.kind==1)=(x.ev.kind==1):=by rw[kG,fg,fg];exact lQ (a:=x.ev.kind) (b:=1)
 have e2:(Y x.ev.kind==2)=(x.ev.kind==2):=by rw[kG,fg,fg];exact lQ (a:=x.ev.kind) (b:=2)
 have⟨R,c⟩:=eX (j3 x);rw[<-c];unfold j3 at c;have f:=ba w (.cells (J 7 (a6 x)) 143);have⟨i,g⟩:=eX (x.ev.kind==1);have⟨j,h⟩:=eX (x.ev.kind==2);rw[<-g]at e1 c;rw[<-h]at e2 c;have e:=aA c f;clear c f g h;rw[show J 7 (a6 x)=#[.int .i64 x.C,.int .u8 (Y x.ev.kind),.int .u8 (Y x.ev.loc),.int .u8 (Y x.ev.val),.int .u8 (Y x.ev.mode),.int .u8 (Y x.ev.ins),.int .u8 (Y x.ev.pos)]from rfl]at*
 go_enter func113,ntmps113;cases i with
 |true=>
  go_wp2;go_ret;exact⟨by rw[e.a];rfl,e.B⟩
 |false=>
  go_wp2;go_ret;exact⟨by rw[e.a];cases j<;>rfl,e.B⟩
end
def s0(b:Rl.Rows)(a:List aN)(i j:Nat):Bool:=Bv.G (b i) j&&(cw a i).C !=(cw a j).C
def zV(b:Rl.Rows)(a:List aN)(i j:Nat):Bool:=Bv.G (b i) j&&pt (cw a i) (cw a j)
section
attribute [local irreducible] Code.wp wpList Oper.wp wpQuiet
def Hp{w:World}{b o}{x}(h:w.rangeAt b o ((List.range 7).map (a6 x)))(c:b<w):∀a,(∃p:Regrown,a=Go.Sort.grow (redrawn w p.d) p.os)->a.rangeAt b o ((List.range 7).map (a6 x)):=by
 rintro a ⟨p,rfl⟩ j v e;exact((jO w p.d p.os).C (p:=⟨b,o+j,none⟩) c).t (h j v e)
def zw(a b):(Y a==Y b)=(a==b):=by rw[kG,fg,fg];exact lQ
def O6(b:Nat)(W:XE)(A:Option Addr)(c:Nat)(f:List aN)(i j:Nat)(w:World)(h:eu w b W A c f)(P:i<f)(X:j<f):
 Calls prog 72 #[.pointer b,.int .i64 i,.int .i64 j] w fun e aa=>e= .returned (.bool (pt (cw f i) (cw f j)))/\Below ↑w w aa:=by
 have⟨x,r⟩:=eX (cw f i);have⟨y,s⟩:=eX (cw f j);rw[<-r,<-s];obtain⟨g,l,rfl,Q,t⟩:=h.ev.row (aP _ _) (r▸jl P);have⟨_,_,u,_,v⟩:=h.ev.row (aP _ _) (s▸jl X);injection u with u;injection u with e1 e2 _;subst e1 e2;have:=P;have T:=h.uv;have z:=fun d n=>bO T d n;have o:=fun d n=>bO (t 2 (a6 x 2) rfl) d n;have p:=fun d n=>bO (v 2 (a6 y 2) rfl) d n;rw[show a6 x 2= .int .u8 (Y x.ev.loc)from rfl]at o;rw[show a6 y 2= .int .u8 (Y y.ev.loc)from rfl]at p;have C:=H (Hp t Q);have E:=H (Hp v Q);have I:=FG x;have J:=FG y;have⟨R,m⟩:=eX (pt x y);rw[<-m];unfold pt at m;rw[<-zw]at m;have⟨ab,L⟩:=eX (j3 x);have⟨ad,M⟩:=eX (j3 y);have⟨ae,N⟩:=eX (Y x.ev.loc);have⟨af,O⟩:=eX (Y y.ev.loc);rw[<-L,<-M,<-N,<-O]at m;rw[<-L]at I;rw[<-M]at J;rw[<-N]at o;rw[<-O]at p;have a:=aA I J;have q:=H m;have:(i:Int)<f:=by omega
 have:(j:Int)<f:=by omega
 clear h r s t v T I J m L M N O;go_enter func72,ntmps72;cases ab with
 |false=>
  go_wp2_with fail
  refine bV (by kernel_rfl) ?_
  repeat(first|(refine kM rfl 143 (.tmp 12) rfl g (l+i*7) 7 rfl _ _ C.y iy rfl eH ?_)|(refine kM rfl 143 (.tmp 21) rfl g (l+j*7) 7 rfl _ _ E.y iy rfl eH ?_)|go_big_quiet_step (first|(go_at_call 113;first|with_reducible exact aX (a.a _)|with_reducible exact aX (a.B _)))|quiet_step (first|(go_at_call 113;first|with_reducible exact aX (a.a _)|with_reducible exact aX (a.B _))))
  refine qh fun s m=>?_;clear z o p;go_wp2;go_ret;exact⟨by rw[q.y];rfl,m.y⟩
 |true=>
  cases ad with
  |false=>
   go_wp2_with fail
   refine bV (by kernel_rfl) ?_
   repeat(first|(refine kM rfl 143 (.tmp 12) rfl g (l+i*7) 7 rfl _ _ C.y iy rfl eH ?_)|(refine kM rfl 143 (.tmp 21) rfl g (l+j*7) 7 rfl _ _ E.y iy rfl eH ?_)|go_big_quiet_step (first|(go_at_call 113;first|with_reducible exact aX (a.a _)|with_reducible exact aX (a.B _)))|quiet_step (first|(go_at_call 113;first|with_reducible exact aX (a.a _)|with_reducible exact aX (a.B _))))
   refine qh fun s m=>?_;clear z o p;go_wp2;go_ret;exact⟨by rw[q.y];rfl,m.y⟩
  |true=>
   obtain⟨r,t⟩:∃r,(ae==af)=r:=⟨_,rfl⟩
   have:(r==r)=true:=by simp
   rw[t]at q
   go_wp2_with fail
   refine bV (by kernel_rfl) ?_
   repeat(first|(refine kM rfl 143 (.tmp 12) rfl g (l+i*7) 7 rfl _ _ C.y iy rfl eH ?_)|(refine kM rfl 143 (.tmp 21) rfl g (l+j*7) 7 rfl _ _ E.y iy rfl eH ?_)|go_big_quiet_step (first|(go_at_call 113;first|with_reducible exact aX (a.a _)|with_reducible exact aX (a.B _)))|quiet_step (first|(go_at_call 113;first|with_reducible exact aX (a.a _)|with_reducible exact aX (a.B _))))
   refine qh fun s m=>?_;clear z o p;go_wp2;go_ret;exact⟨by rw[q.y];rfl,m.y⟩
def UI(b l:Nat)(X)(A)(c)(F)(i j:Nat)(w)(h:eu w b X A c F)(s:w.cell? l=some (.pointer b))(t:F.length<=48)(p:i<F)(q:j<F):
 Calls prog 70 (#[.int .i64 i,.int .i64 j]++#[.pointer l]) w (Rs (zV (X.row 0) F i j) w):=by
 have m:=Dr b 1 i j (X.row 0 i) w (by omega) (by omega) (by have:=h.row 0 i (dr rfl) (by omega);rw[show 49*0+2+i=1+1+i by omega]at this;exact this);have n:=O6 b X A c F i j w h p q;have⟨R,a⟩:=eX (zV (X.row 0) F i j);rw[<-a];unfold zV at a;have⟨r,f⟩:=eX (Bv.G (X.row 0 i) j);have⟨u,g⟩:=eX (pt (cw F i) (cw F j));rw[<-f,<-g]at a;rw[<-f]at m;rw[<-g]at n;have o:=H a;clear h f g a;go_enter func70,ntmps70
 go_wp2_with fail
 refine m.m ?_;rintro e f ⟨rfl,rfl⟩;cases r with
 |false=>
  go_wp2;go_ret;exact⟨by rw[o.y];rfl,aP _ _⟩
 |true=>
  go_wp2_with fail
  refine n.st fun g a=>?_;go_wp2;go_ret;exact⟨by rw[o.y];rfl,(H a).y⟩
def ae5(b I m:Nat)(aa:XE)(A:Option Addr)(c:Nat)(g:List aN)(n:Int)(f:Rl.Rows)(i j:Nat)(w:World)(h:eu w b aa A c g)(J:w.cell? I=some (.pointer b))(L:aG w m n f)(ag:g.length<=48)(ab:i<g.length)(ad:j<g.length):
 Calls prog 121 (#[.int .i64 i,.int .i64 j]++#[.pointer m,.pointer I]) w (Rs (.bool (s0 f g i j)) w):=by
 have⟨x,t⟩:=eX (cw g i);have⟨y,u⟩:=eX (cw g j);obtain⟨ah,ai,rfl,aj,M⟩:=h.ev.row (aP _ _) (t▸jl ab);have⟨_,_,v,_,N⟩:=h.ev.row (aP _ _) (u▸jl ad);injection v with v;injection v with e1 e2 _;subst e1 e2;have O:=h.uv;have P:=fun d a=>bO O d a;have Q:=fun d a=>bO J d a;have ex:=M 0 (a6 x 0) rfl;have z:=N 0 (a6 y 0) rfl;rw[vY]at ex z;have o:=fun d a=>bO ex d a;have p:=fun d a=>bO z d a;rw[show a6 x 0= .int .i64 x.C from rfl]at o;rw[show a6 y 0= .int .i64 y.C from rfl]at p;have C:∀d a,Calls prog 71 #[.pointer m,.int .i64 i,.int .i64 j] (Go.Sort.grow (redrawn w d) a) fun e ae=>e= .returned (.bool (Bv.G (f i) j))/\Below (Go.Sort.grow (redrawn w d) a) (Go.Sort.grow (redrawn w d) a) ae:=fun d a=>
  (Dr m 0 i j (f i) _ (by omega) (by omega) (by rw[show 0+1+i=1+i by omega];exact(yz L d a).row i (by omega))).m fun _ _ h=>⟨h.1,by rw[h.2];exact aP _ _⟩
 have⟨R,l⟩:=eX (s0 f g i j);rw[<-l];unfold s0 at l;rw[<-t,<-u]at l;have⟨af,E⟩:=eX (Bv.G (f i) j);obtain⟨q,r⟩:∃q,(x.C !=y.C)=q:=⟨_,rfl⟩
 have⟨ak,T⟩:=eX x.C;have⟨al,W⟩:=eX y.C;rw[<-E,r]at l;rw[<-E]at C;rw[<-T]at o r;rw[<-W]at p r;have X:=H l;have s:=H C;have:(i:Int)<g.length:=by omega
 have:(j:Int)<g.length:=by omega
 clear h t u M N O J L E l T W C ex z;go_enter func121,ntmps121;cases af with
 |false=>
  clear r
  go_wp2_with fail
  refine bV (by kernel_rfl) ?_
  repeat(first|go_big_quiet_step (first|(go_at_call 71;with_reducible exact aX (s.y _ _)))|quiet_step (first|(go_at_call 71;with_reducible exact aX (s.y _ _))))
  refine qh fun r l=>?_;clear P Q o p;go_wp2;go_ret;exact⟨by rw[X.y];rfl,l.y⟩
 |true=>
  have:(q==q)=true:=by simp
  go_wp2_with fail
  refine bV (by kernel_rfl) ?_
  repeat(first|go_big_quiet_step (first|(go_at_call 71;with_reducible exact aX (s.y _ _)))|quiet_step (first|(go_at_call 71;with_reducible exact aX (s.y _ _))))
  refine qh fun r l=>?_;clear P Q o p;go_wp2;go_ret;exact⟨by rw[X.y];rfl,l.y⟩
end
def jP(h:Nat->Bool):Nat->BitVec 64
 |0=>0#64
 |k+1=>if h k then jP h k|||Bv.bit k else jP h k
def WW{h}{k}(c:k<=64)(j):(jP h k).getLsbD j=(decide (j<k)&&h j):=by
 induction k with
 |zero=>simp[jP]
 |succ k a=>
  unfold jP;by_cases b:h k=true
  .rw[aq b,iU,(a (by omega)),Bv.ik k j (by omega)]
   grind
  grind
def pf(h:Nat->Nat->Bool)(n k:Nat):Rl.Rows:=fun i=>if i<k then jP (h i) n else 0#64
def pP(n:Nat)(h:Nat->Nat->Bool):Rl.Rows:=pf h n n
def Vp(h)(n k):ew (pf h n k) k (jP (h k) n)=pf h n (k+1):=by
 unfold ew pf
 grind
def RR{n}(a:n<=64)(h)(i j):(pP n h i).getLsbD j=(decide (i<n)&&(decide (j<n)&&h i j)):=by
 unfold pP pf;by_cases e:i<n
 .rw[aq e,WW a,fB e,kQ]
 grind
section
attribute [local irreducible] Code.wp wpList Oper.wp wpQuiet
attribute [local go_sem] Bv.fE Bv.fO Bv.fA Bv.fL Bv.fC Bv.gn Bv.fP Bv.fQ
def Lv(n:Nat)(g:Nat)(J:Array Value)(f:Nat->Nat->Bool)(w:World)(X:n<=48)(aa:∀args w,(callFunc g args).run prog w= .ok (.enter g args) w)
 (M:∀(a b:Nat) W,a<n->b<n->Below ↑w w W->Calls prog g (#[.int .i64 a,.int .i64 b]++J) W fun e l=>e= .returned (.bool (f a b))/\Below ↑W W l):
 Calls prog 69 #[.int .i64 n,.func (.func g) #[] J] w fun e l=>e= .returned (.agg (ar n (pP n f)))/\Below ↑w w l:=by
 have:=jk;have:=y9;have h:=aG.new w 0 E;have z:=aG.new (w.alloc (.cells (ar 0 E) 53)) 0 E;rw[cT]at z;have H:=aD (h.alloc (.cells (ar 0 E) 53)) z M;go_enter func69,ntmps69
 go_wp2_with ((refine fY rfl (.tmp 5) (.tmp 9) rfl (w+1) n 0 E E rfl rfl H.b ?_;intro o z l))
 have I:=aD (H.a.K l (sn (by omega))) z (show Below ↑w w o from((ba w _).alloc (by simp) _).b l (by simp;omega) (fun j e=>by cases e;omega))
 go_loopw [11] (fun c wr=>∃k:Nat,k<=n/\c= .int .i64 k/\aG wr (w+1) n (pf f n k)/\aG wr w 0 E/\Below w w wr) (fun c _=>n-(intOf c).toNat)
 case atStart=>exact⟨0,aQ _,rfl,I.b,I.a,I.C⟩
 obtain⟨k,ab,rfl,l,h,o⟩:=hrel;by_cases N:k<n
 .have ad:(k:Int)<n:=by omega
  have q:=aD l h o;go_wp2
  go_loopw [15] (fun j A=>∃m:Nat,m<=n/\j= .int .i64 m/\aG A (w+1) n (ew (pf f n k) k (jP (f k) m))/\aG A w 0 E/\Below w w A) (fun j _=>n-(intOf j).toNat)
  case atStart=>
   refine⟨0,aQ _,rfl,?_,q.b,q.C⟩;have e:ew (pf f n k) k (jP (f k) 0)=pf f n k:=by
    funext i;unfold ew;by_cases e:i=k
    .rw[aq e,e];unfold pf jP;rw[O (by omega)]
    rw[O e]
   rw[e];exact q.a
  obtain⟨m,ae,rfl,l,h,o⟩:=hrel;have⟨P,Q⟩:=eX wr;subst Q;by_cases R:m<n
  .have af:(m:Int)<n:=by omega
   have s:=H.C k m P N R o;have⟨v,t⟩:=eX (f k m);rw[<-t]at s;have r:=aY l h o t;have T:=l.lt;clear l h o t
   go_wp2_with fail
   refine s.st fun x y=>?_;clear s;have C:=r.c.t (y.m r.c.size);have u:=r.a.Z y T;have F:=r.b.Z y r.b.lt;cases v with
   |false=>
    have s:=aD u F C;clear u F C y;go_wp2;refine⟨⟨m+1,by omega,by go_num,?_,s.b,s.C⟩,by simp[intOf];omega⟩;rw[show jP (f k) (m+1)=jP (f k) m by unfold jP;rw[O (by rw[<-r.D];simp)];cases m<;>rfl];exact s.a
   |true=>
    have cr:=u.row k (by omega);have L:=u.free (1+k);rw[show ew (pf f n k) k (jP (f k) m) k=jP (f k) m by unfold ew;rw[aq rfl]]at cr;have:(k:Int)<48:=by omega
    have:(0:Int)<=(k:Int):=by omega
    have:¬((m:Int)<0):=by omega
    have t:=aD u F C;clear u F C y;go_wp2;go_still_tail 9,(by kernel_rfl)
    change wpList _ _ _ _ _ x.drew;have:x.drew.cell? ⟨w+1,1+k,none⟩=some (.int .u64 (Bv.U (jP (f k) m))):=cr;have:x.drew.frozen? ⟨w+1,1+k,none⟩=false:=L;have u:=aD t.a.drew t.b.drew (show Below w w x.drew from⟨t.C.os,t.C.tape,t.C.output,t.C.size,t.C.block⟩);clear cr L;generalize x.drew=y at*
    go_step
    go_wp2;refine⟨⟨m+1,by omega,by go_num,?_,u.b.other _ _ (by show w.1.size≠w+1;omega),u.C.setCell (p:=⟨w+1,1+k,none⟩) (by show w.1.size<=w+1;omega) _⟩,by simp[intOf];omega⟩;have e:jP (f k) (m+1)=jP (f k) m|||Bv.bit m:=by rw[jP,aq r.D.s]
    have:=u.a.set k (jP (f k) m|||Bv.bit m);rw[e,<-SI _ _ (jP (f k) m)];exact this
  obtain rfl:m=n:=by omega
  have:¬(m:Int)<m:=by omega
  have s:=aD l h o;clear l h o;go_wp2;exact⟨⟨k+1,by omega,by go_num,by rw[<-Vp];exact s.a,s.b,s.C⟩,by simp[intOf];omega⟩
 obtain rfl:k=n:=by omega
 have:¬(k:Int)<k:=by omega
 have q:=aD l h o;clear l h o
 go_wp2_with (first|(refine kk rfl (.tmp 5) rfl (w+1) k (pf f k k) rfl q.a ?_)|(refine fY rfl (.tmp 4) (.tmp 33) rfl w k 0 (pf f k k) E rfl rfl q.b ?_;intro A h l))
 refine bK (qC rfl _ _ w 53 (ar k (pP k f)) (0,0) _ rfl h gT rfl (jT _ _)) rfl ⟨rfl,q.C.b l q.C.size (fun j e=>by cases e;omega)⟩
end
section
attribute [local irreducible] Code.wp wpList Oper.wp wpQuiet
def Dx(ρ)(dst)(ty)(pos)(after)(W):
 (execOp ρ {dst,op:= .alloc 53,type:=ty,pos,after,guard:=none}).run prog W= .ok (.value (.pointer W)) (W.alloc (.cells (ar 0 E) 53)):=by
 have a:=jk;have:¬ar 0 E=#[]:=by intro h;have:=cg Array.size h;rw[lY]at this;simp at this
 simp[execOp,go_sem,a]
def KF{ops}{w0}{Q}{a}{rest}{o}(e:Region.wanted o (yielded ops a.tmps)=true)(x)(g:o.op= .load 53 x)
 (b)(n)(f)(i:a.eval x= .pointer b)(c:aG w0 b n f)(h:Bl.iQ prog ops w0 Q rest (a.put o.dst (ar n f))):Bl.iQ prog ops w0 Q (o::rest) a:=
 Bl.dK e (fun W j=>by
   unfold execOp;simp only[g,i,Instr.loadAt,Instr.sureAddr,eD,eZ,eY,vW (P:=prog) _ b 53 53 (ar n f) (0,0) _ (c.Z j c.lt) gT rfl (jT n f)]) h
def Ao{ops}{w0}{Q}{a}{rest}{o}(f:Region.wanted o (yielded ops a.tmps)=true)(x)(g:o.op= .load 53 x)
 (b k r)(e:XE)(A)(c n:Nat)(F)(i:k=1+49*r)(j:r<6)(l:e.n=n)(m:a.eval x= .pointer (some ⟨b,k,none⟩))(p:eu w0 b e A c F)(h:Bl.iQ prog ops w0 Q rest (a.put o.dst (ar n (e.row r)))):Bl.iQ prog ops w0 Q (o::rest) a:=by
 subst i;refine Bl.dK f (fun W q=>?_) h;unfold execOp;simp only[g,m,Instr.loadAt,Instr.sureAddr,eD,eZ,eY,qu W b (1+49*r) 53 ((List.range 49).map (dz e.n (e.row r))) _ ((p.Z q).range r j) gT rfl (by rw[pq];simp)];rw[<-l,nN];rfl
def Dg{o}{a}(x y)(h:o.op= .store 53 x y)(b)(m n)(g f)(i:a.eval x= .pointer b)(j:a.eval y= .agg (ar m g)):
 Bl.yc prog o a (.cells (ar n f) 53) (.cells (ar m g) 53) b:=by
 intro W c;refine⟨W.setRow b (ar m g),?_,⟨rfl,rfl,rfl,by simp,fun k _ l=>Gu W b k _ (fun e=>l (by rw[e]))⟩,Ed W b (ar n f) _ 53 (0,0) c⟩;unfold execOp;simp only[h,i,j,Instr.storeAt,Instr.sureAddr,eD,eZ,eY,(ED (P:=prog) W b 53 53 (ar n f) (ar m g) c (jT m g) (by rw[lY,lY]) (MS m g))]
def I8{n}{f g}(a:Rl.Ok n f)(b:Rl.Ok n g)(rows):qe n n f g=n/\qw n n f g rows=Rl.cut n rows/\tU n n f g=0:=by
 have:okB n n f g=true:=by unfold okB;rw[Rl.oC a,Rl.oC b];simp
 unfold qe qw tU
 grind
def adh(n)(f g)(w)(a:Rl.Ok n f)(b:Rl.Ok n g):
 Calls prog 115 #[(ar n f),(ar n g)] w (Rs (Value.tuple #[(ar n (Rl.rN n f g)),.int .i64 0]) w):=by
 have h:=YA n n f g w a.z b.z;have e:=I8 a b (fun k=>f k|||g k);rw[e.1,e.2.1,e.2.2]at h;exact h
def ad9(n)(f g)(w)(a:Rl.Ok n f)(b:Rl.Ok n g):
 Calls prog 76 #[(ar n f),(ar n g)] w (Rs (Value.tuple #[(ar n (Rl.sI n f g)),.int .i64 0]) w):=by
 have h:=ag4 n n f g w a.z b.z;have e:=I8 a b (fun k=>f k&&&g k);rw[e.1,e.2.1,e.2.2]at h;exact h
def then_ok(n)(f g)(w)(a:Rl.Ok n f)(b:Rl.Ok n g)(c:bh w):
 Calls prog 75 #[(ar n f),(ar n g)] w (Rs (Value.tuple #[(ar n (Rl.lK n f g)),.int .i64 0]) w):=by
 have h:=acH n n f g w a.z b.z c c.lt;have e:=I8 a b (fun k=>Rl.py g (f k));rw[e.1,e.2.1,e.2.2]at h;exact h
attribute [local go_sem] Bv.fE Bv.fO Bv.fA Bv.fL Bv.fC Bv.gn Bv.fP Bv.fQ
def aaU(b)(X)(A)(c n:Nat)(F)(w)(t:eu w b X A c F)(u:X.n=n)(p:Rl.Ok n (X.row 1))(v:Rl.Ok n (X.row 2))(i:bh w):
 Calls prog 68 #[.pointer b] w (Rs (ar n (Rl.lK n (Rl.dR n (X.row 1)) (X.row 2))) w):=by
 have:=jk;have q:=aG.new w 0 E;have f:=ba w (.cells (ar 0 E) 53);have⟨w0,r⟩:=eX (w.alloc (.cells (ar 0 E) 53));rw[<-r]at q f;have⟨l,m⟩:=eX (Rl.dR n (X.row 1));have⟨R,s⟩:=eX (Rl.lK n l (X.row 2));rw[<-m,<-s];have x:∀W,Below w0 w0 W->Calls prog 107 #[(ar n (X.row 1))] W (Rs (ar n l) W):=fun W h=>by
  have:=i.Z (f.t (h.m f.size)) i.lt;rw[m];exact Gq n (X.row 1) W p this this.lt
 have y:∀W,Below w0 w0 W->Calls prog 75 #[(ar n l),(ar n (X.row 2))] W (Rs (Value.tuple #[(ar n R),.int .i64 0]) W):=fun W h=>by
  have:=i.Z (f.t (h.m f.size)) i.lt;rw[s,m];exact then_ok n _ _ W (Rl.Fo p) v this
 have g:=bM (t.Z f) q f x y;have z:=H r;clear t q f x y p v i m s r;go_enter func68,ntmps68
 go_wp2_with fail
 rw[<-z.y];have q:=g.b.lt;refine Bl.sW 13 _ _ (.cells (ar 0 E) 53) (.cells (ar n R) 53) (by kernel_rfl) (by kernel_rfl) rfl rfl (fun a W=>Dx _ _ _ _ _ _) rfl rfl ?_;simp only[st1]
 iterate 3 (refine Bl.dK rfl (fun W h=>by simp[execOp,go_sem];rfl) ?_;simp only[o])
 refine Ao rfl (.tmp 8) rfl b 50 1 X A c n F rfl (dr rfl) u rfl g.a ?_;simp only[o];refine Bl.mZ 107 #[(ar n (X.row 1))] rfl (fun W=>by simp[execOp,go_sem]) g.d ?_;simp only[o]
 iterate 3 (refine Bl.dK rfl (fun W h=>by simp[execOp,go_sem];rfl) ?_;simp only[o])
 refine Ao rfl (.tmp 13) rfl b 99 2 X A c n F rfl (dr rfl) u rfl g.a ?_;simp only[o];refine Bl.mZ 75 #[(ar n l),(ar n (X.row 2))] rfl (fun W=>by simp[execOp,go_sem]) g.E ?_;simp only[o]
 repeat(refine Bl.dK rfl (fun W h=>by simp[execOp,go_sem];rfl) ?_;simp only[o])
 refine Bl.kr ?_;intro m;refine⟨Dg (.tmp 3) (.tmp 16) rfl m n 0 R E rfl rfl,?_⟩;intro s i r p;have f:=aD (p) (g.b.Z i q) (g.c.t (i.m g.c.size));clear i r p;simp only[o]
 go_wp2_with (first|(refine kk rfl (.tmp 3) rfl m n R rfl f.a ?_)|(refine fY rfl (.tmp 2) (.tmp 18) rfl w n 0 R E rfl rfl f.b ?_;intro r i p))
 refine bK (qC rfl _ _ w 53 (ar n R) (0,0) _ rfl i gT rfl (jT _ _)) rfl ⟨rfl,f.C.b p f.C.size (fun j e=>by grind)⟩
end
def wJ(n:Nat)(f:Rl.Rows)(a:Nat->Rl.Rows):Nat->Rl.Rows
 |0=>f
 |k+1=>Rl.rN n (wJ n f a k) (a k)
def KX{n}{f}{gs}(b:Rl.Ok n f){m}(a:∀k,k<m->Rl.Ok n (gs k)):Rl.Ok n (wJ n f gs m):=by
 induction m with
 |zero=>exact b
 |succ m c=>exact Rl.xW (c fun k e=>a k (by omega)) (a m (by omega))
section
attribute [local irreducible] Code.wp wpList Oper.wp wpQuiet
def YN(n m I h:Nat)(f)(gs)(w:World)(g:Rl.Ok n f)(i:∀k,k<m->Rl.Ok n (gs k))(a:m<=100)(H:h<w)(l:∀k,k<m->w.rangeAt h (k*49) ((List.range 49).map (dz n (gs k)))):
 Calls prog 74 #[(ar n f),.slice h m I] w (Rs (ar n (wJ n f gs m)) w):=by
 have:=jk;have⟨u,a⟩:=eX ((w.alloc (.cells (ar n f) 53)).alloc (.cells (ar 0 E) 53));have o:Below w w u:=by rw[a];exact(ba w _).alloc (by simp) _
 have s:aG u w n f:=by rw[a];exact(aG.new w n f).alloc _
 have r:aG u (w+1) 0 E:=by
  have:=aG.new (w.alloc (.cells (ar n f) 53)) 0 E;simp_all
 have b:=dH g i l o s r a;clear g i l o s r a;go_enter func74,ntmps74
 go_upto_region 1 with fail
 rw[<-b.G];go_wp2
 go_loopw [9] (fun c wr=>∃k,k<=m/\c= .int .i64 k/\Below w w wr/\aG wr w n (wJ n f gs k)/\aG wr (w+1) 0 E) (fun c _=>m-(intOf c).toNat)
 case atStart=>exact⟨0,aQ _,rfl,b.d,b.e,b.f⟩
 obtain⟨k,N,rfl,o,i,x⟩:=hrel;have⟨s,J⟩:=eX wr;subst J;have L:=o.size;by_cases A:k<m
 .have O:(k:Int)<m:=by omega
  have⟨U,l⟩:=eX (wJ n f gs k);have⟨V,g⟩:=eX (wJ n f gs (k+1));have⟨G,t⟩:=eX (gs k);have y:=KX b.a (m:=k) fun q P=>b.b q (by omega);have z:=b.b k A;have C:V=Rl.rN n U G:=by rw[g,l,t];rfl
  have F:s.rangeAt h (k*49) ((List.range 49).map (dz n G)):=fun j v Q=>(o.C (p:=⟨h,k*49+j,none⟩) H).t (b.c k A j v (by grind));rw[<-l]at y i;rw[<-t]at z;have H:∀W,Calls prog 115 #[(ar n U),(ar n G)] W (Rs (Value.tuple #[(ar n V),.int .i64 0]) W):=fun W=>by rw[C];exact adh n U G W y z
  have M:=i.lt;have a:=dH o i x F H (aG.new s 0 E) g;clear o i x l g t y z C F H
  go_wp2_with (first|(refine iI rfl 53 (.tmp 11) rfl h (k*49) rfl ((List.range 49).map (dz n G)) _ a.d gT rfl pq ?_;rw[show((List.range 49).map (dz n G)).toArray=ar n G from(nN n G).s])|(refine fY rfl (.tmp 6) (.tmp 12) rfl s n 0 G E rfl rfl a.f ?_;intro F r z;have t:=fJ z;have y:=a.b.Z t M;have C:=a.c.Z t a.c.lt;have g:=aY r t y C)|(refine kk rfl (.tmp 2) rfl w n U rfl g.c ?_)|(refine kk rfl (.tmp 6) rfl s n G rfl g.a ?_))
  refine(a.e _).st fun H z=>?_;have t:=aD (g.c.Z z g.c.lt) (g.D.Z z g.D.lt) (a.a.t ((g.b.t (z.m g.b.size)).m L))
  go_wp2_with ((refine fY rfl (.tmp 2) (.tmp 17) rfl w n n V U rfl rfl t.a ?_;intro R F C;have g:=aD F (t.b.K C (fun e=>by grind)) (t.C.b C t.C.size (fun j e=>by grind))))
  exact⟨⟨k+1,by omega,by go_num,g.C,by rw[<-a.G];exact g.a,g.b⟩,by simp[intOf];omega⟩
 obtain rfl:k=m:=by omega
 have:¬(k:Int)<k:=by omega
 have⟨U,l⟩:=eX (wJ n f gs k);rw[<-l]at i;have a:=aY i x o l
 go_wp2_with (first|(refine kk rfl (.tmp 2) rfl w n U rfl a.a ?_)|(refine fY rfl (.tmp 4) (.tmp 20) rfl (w+1) n 0 U E rfl rfl a.b ?_;intro C y g))
 refine bK (qC rfl _ _ (w+1) 53 (ar n U) (0,0) _ rfl y gT rfl (jT _ _)) rfl ⟨by rw[a.D],a.c.b g a.c.size (fun j e=>by grind)⟩
end
section
attribute [local irreducible] Code.wp wpList Oper.wp wpQuiet
def aep(b)(X)(A)(c)(F)(f)(w:World)(q:eu w b X A c F)(r:F.length<=48):
 Calls prog 78 #[.pointer b,(ar ↑F f)] w (Rs (ar ↑F (pP ↑F (s0 f F))) w):=by
 have:=jk;have⟨a,h⟩:=eX (((w.alloc (.cells #[.pointer b] 102)).alloc (.cells (ar F f) 53)).alloc (.cells (ar 0 E) 53));have m:Below w w a:=by rw[h];exact((ba w _).alloc (by simp) _).alloc (by simp;omega) _
 have n:Boxed a w 102 (.pointer b):=by rw[h];exact((dE w _ _).alloc _).alloc _
 have l:aG a (w+1) F f:=by
  have:=(aG.new (w.alloc (.cells #[.pointer b] 102)) F f).alloc (.cells (ar 0 E) 53);simp_all
 have s:aG a (w+2) 0 E:=by
  have:=aG.new ((w.alloc (.cells #[.pointer b] 102)).alloc (.cells (ar F f) 53)) 0 E;simp_all
 have⟨R,t⟩:=eX (pP F (s0 f F));have o:=Lv F 121 #[.pointer (w+1:Nat),.pointer w] (s0 f F) a r (gH func121 (by kernel_rfl) rfl)
  (fun i j W u v g=>ae5 b w (w+1) X A c F F f i j W ((q.Z m).Z g) ((g.C (p:=w) n.lt).t n.C) (l.Z g l.lt) r u v)
 rw[<-t]at o⊢;have u:=l.num;have g:=aD m s h;clear q m n l s h t;go_enter func78,ntmps78
 go_upto_region 1 with fail
 rw[<-g.C]
 go_wp2_with fail
 refine o.st fun n h=>?_;clear o u;have l:=aA (g.b.Z h g.b.lt) (g.a.t (h.m g.a.size));clear h
 go_wp2_with ((refine fY rfl (.tmp 4) (.tmp 8) rfl (w+2) F 0 R E rfl rfl l.a ?_;intro o h m))
 refine bK (qC rfl _ _ (w+2) 53 (ar F R) (0,0) _ rfl h gT rfl (jT _ _)) rfl ⟨rfl,l.B.b m l.B.size (fun j e=>by grind)⟩
end
section
attribute [local go_sem] Bv.fE Bv.fO Bv.fA Bv.fL Bv.fC Bv.gn Bv.fP Bv.fQ
def vA(z:Int):Bool:=decide (0<=z/\z<64)
def re(a:List Int):Bool:=a.all vA
def vf(a:List Int):BitVec 64:=a.foldl (fun s z=>s|||Bv.bit z.toNat) 0#64
def Ts(l)(z):re (l++[z])=(re l&&vA z):=by simp[re]
def V0(l)(z):vf (l++[z])=vf l|||Bv.bit z.toNat:=by simp[vf]
def xD(a:List Int):BitVec 64:=if re a then vf a else 0#64
def zW(a:List Int):Int:=if re a then 0 else 2
def WE(a:List Int)(k:Nat)(h:k<a):a.take (k+1)=a.take k++[a.getD k 0]:=by
 simp_all
def abS(zs)(k)(h:re (zs.take k)=false):re zs=false:=by
 have:=(yu k zs).s;rw[this];unfold re at h⊢;rw[Cn,h];rfl
def aeH(A:Option Addr)(a:List Int)(t:Nat)(w:World)(u:a<=maxLen)(l:fK w A a):
 Calls prog 181 #[.slice A a t] w fun e v=>e=(Value.tuple #[.int .u64 (Bv.U (xD a)),(zW a)])/\v=w:=by
 unfold maxLen at u;go_enter func181,ntmps181;go_wp2
 go_loop [4,9] (fun s i=>∃k:Nat,k<=a/\i= .int .i64 k/\s= .int .u64 (Bv.U (vf (a.take k)))/\re (a.take k)=true) (fun _ i=>a-(intOf i).toNat)
 case atStart=>exact⟨0,aQ _,rfl,rfl,rfl⟩
 obtain⟨k,F,rfl,rfl,c⟩:=hrel;by_cases p:k<a
 .obtain⟨b,I,rfl,_,g⟩:=l (by omega);have x:=g k p;have f:=WE a k p;have⟨z,h⟩:=eX (a.getD k 0);rw[<-h]at x f;have m:=H f;have y:=H c;clear l g h f c;by_cases f:vA z=true
  .have q:0<=z:=by simp[vA]at f;omega
   have:z<64:=by simp[vA]at f;omega
   have C:=H f;clear f;go_wp2
   go_round
   case rel=>exact⟨k+1,by omega,by go_num,by rw[m.y,V0],by rw[m.y,Ts,y.y,C.y];rfl⟩
   simp[intOf];omega
  have n:vA z=false:=by grind
  have r:re (a.take (k+1))=false:=by rw[m.y,Ts,n];simp
  have o:=abS a (k+1) r;have g:xD a=0#64:=by unfold xD;rw[o];rfl
  have h:zW a=2:=by unfold zW;rw[o];rfl
  have j:=aA g h;have E:z<0\/64<=z:=by simp[vA]at n;omega
  clear f n r o g h;obtain q|q:=E
  all_goals
   go_wp2
   go_ret2
   exact⟨by rw[j.a,j.B];rfl,rfl⟩
 have n:k=a:=by omega
 have f:a.take k=a:=by grind
 rw[f]at c⊢;have g:xD a=vf a:=by unfold xD;rw[c];rfl
 have h:zW a=0:=by unfold zW;rw[c];rfl
 have j:=aA g h;clear l c g h f n;go_wp2
 go_ret2
 exact⟨by rw[j.a,j.B];rfl,rfl⟩
end
def yf(md:UInt8)(x:aN):Bool:=x.ev.kind==3&&x.ev.mode==md
def jJ(a:List aN)(md:UInt8)(k:Nat):List Nat:=(List.range k).filter fun i=>(a[i]?).any (yf md)
def Du(a:List aN)(md:UInt8):BitVec 64:=vf (ints (jJ a md a.length))
def abf{F}{md}{k}{x:aN}(h:F[k]? =x):jJ F md (k+1)=if yf md x then jJ F md k++[k]else jJ F md k:=by
 unfold jJ;rw[jh,oh]
 grind
def WU(F)(md)(k):(jJ F md k)<=k:=by
 unfold jJ
 grind
def Ou{F}{md}{k i}(h:i∈jJ F md k):i<k:=by
 unfold jJ at h
 grind
def ph(a:List aN)(md:UInt8)(b:Rl.Rows):Rl.Rows:=Rl.lK a.length (Rl.lK a.length b (Rl.tt a.length (Du a md))) b
section
attribute [local irreducible] Code.wp wpList Oper.wp wpQuiet
def Y3{F}{md}(c:F.length<=48):xD (ints (jJ F md F))=Du F md:=by
 unfold xD;rw[aq]
 .rfl
 unfold re;rw[mw];intro z a;obtain⟨i,b,rfl⟩:=bX.1 a;have:=Ou b;unfold vA
 grind
def aaa(b:Nat)(n:XE)(A:Option Addr)(c:Nat)(f:List aN)(md:UInt8)(w:World)(t:eu w b n A c f)(T:f.length<=48)(ad:n.n=(f.length:Int))(u:Rl.Ok f.length (n.row 0))(m:bh w):
 Calls prog 122 #[.pointer b,.int .u8 (Y md)] w (Rs (.agg (ar f.length (ph f md (n.row 0)))) w):=by
 have:=jk;have⟨s,g⟩:=eX (w.alloc (.cells (ar 0 E) 53));have l:Below w w s:=by rw[g];exact ba w _
 have y:aG s w.1.size 0 E:=by rw[g];exact aG.new w 0 E
 have q:=t.Z l;have:=q.uv;have z:=m.Z l m.lt;have⟨R,r⟩:=eX (ph f md (n.row 0));rw[<-r];have p:=dH l y q z u r g;clear t l y q m z u r g;have⟨an,ao,ap,aq,au⟩:=eQ Bn;go_enter func122,ntmps122
 go_upto_region 1 with fail
 rw[<-p.G];go_wp2
 go_loopw [6,25] (fun v i wr=>∃k:Nat,k<=f.length/\i= .int .i64 k/\wr.ownsRow s.1.size 3 1 v (jJ f md k).length (nums (jJ f md k))/\Below s s wr) (fun _ i _=>f.length-(intOf i).toNat)
 case atStart=>exact⟨0,aQ _,rfl,gI _ _ _ _,aP _ _⟩
 obtain⟨k,aJ,rfl,y,t⟩:=hrel;have⟨ae,af,av⟩:=bo y (dr rfl);subst av;have⟨u,aw⟩:=eX wr;subst aw;have ax:=WU f md k;have⟨ay,z⟩:=eX (jJ f md k).length;rw[<-z]at y ax⊢;have ag:=t.size;by_cases az:k<f.length
 .obtain⟨x,r⟩:∃x,f[k]? =some x:=⟨_,aI az⟩
  obtain⟨X,aa,rfl,aK,M⟩:=p.c.ev.row t r;have aL:(k:Int)<f.length:=by omega
  have g:=abf (md:=md) r;have⟨C,J⟩:=eX (Y x.ev.mode);have⟨O,L⟩:=eX (Y x.ev.kind);have⟨P,q⟩:=eX (Y md);rw[<-q];have e1:(O==3)=(x.ev.kind==3):=by rw[L];exact zw x.ev.kind 3
  have e2:(C==P)=(x.ev.mode==md):=by rw[J,q];exact zw _ _
  unfold yf at g;rw[<-e1,<-e2]at g;have l:=dH t y M z L J q;have N:∀m,Below u u m->jJ f md (k+1)=jJ f md k->(∃k':Nat,k'<=f.length/\Value.int .i64 ((k:Int)+1)= .int .i64 k'/\m.ownsRow s.1.size 3 1 (.slice ae ay af) (jJ f md k').length (nums (jJ f md k'))/\Below s s m):=fun m ah aB=>
   ⟨k+1,by omega,by go_num,by rw[aB,<-l.d];exact bP l.b ah,l.a.t (ah.m ag)⟩
  have ai:=H N;clear t y r M z L J q e1 e2 N;by_cases Q:O=3
  .subst Q;by_cases J:C=P
   .have L:(C==P)=true:=by simp[J]
    rw[L]at g;have M:=aA g J;clear g J
    go_wp2_with (first|(refine l4 rfl (.tmp 28) rfl X (aa+k*7) rfl x l.c (h:=?_))|(refine l6 rfl (.tmp 8) (.tmp 29) rfl x rfl rfl (h:=?_);intro m q r;have ab:m.cell? ⟨u.1.size,1,none⟩=some (.int .u8 3):=(q.C 1 (dr rfl)).t (by rw[show a6 x 1= .int .u8 (Y x.ev.kind)from rfl,<-l.e]);have am:m.cell? ⟨u.1.size,4,none⟩=some (.int .u8 C):=(q.C 4 (dr rfl)).t (by rw[l.f];rfl);have aj:=bP l.b r;have:=r.size;have N:=H r;clear q r)|(at_builtin;refine qJ _ rfl _ _ 65 rfl s.1.size 3 an _ 1 8 underlying65 ao ap aq au rfl (dr rfl) _ _ _ rfl (aj.alloc _) (m.1.size:Nat) 1 1 [.int .i64 k] rfl rfl (kN _ _ _) (by simp[Value.oneCell']) (by unfold maxLen;omega) (by omega) (by simp;omega) ?_;intro aC w9 ak al aE))
    refine⟨⟨k+1,by omega,by go_num,?_,?_⟩,by simp[intOf];omega⟩
    .have e:jJ f md (k+1)=jJ f md k++[k]:=M.a;rw[e,dc,<-l.d,pG];exact ak
    exact((l.a.t (N.y.m ag)).alloc (by omega) _).b al (by simp;omega) (fun j e=>(l.b.lt j e).1)
   have L:(C==P)=false:=by simp[J]
   rw[L]at g;have M:=H g;clear g J
   go_wp2_with (first|(refine l4 rfl (.tmp 28) rfl X (aa+k*7) rfl x l.c (h:=?_))|(refine l6 rfl (.tmp 8) (.tmp 29) rfl x rfl rfl (h:=?_);intro m q r;have ab:m.cell? ⟨u.1.size,1,none⟩=some (.int .u8 3):=(q.C 1 (dr rfl)).t (by rw[show a6 x 1= .int .u8 (Y x.ev.kind)from rfl,<-l.e]);have:m.cell? ⟨u.1.size,4,none⟩=some (.int .u8 C):=(q.C 4 (dr rfl)).t (by rw[l.f];rfl);have N:=H r;clear q r))
   exact⟨ai.y _ N.y M.y,by simp[intOf];omega⟩
  have L:(O==3)=false:=by simp[Q]
  rw[L]at g;have M:=aA g Q;clear g Q
  go_wp2_with (first|(refine l4 rfl (.tmp 28) rfl X (aa+k*7) rfl x l.c (h:=?_))|(refine l6 rfl (.tmp 8) (.tmp 29) rfl x rfl rfl (h:=?_);intro m q r;have:m.cell? ⟨u.1.size,1,none⟩=some (.int .u8 O):=(q.C 1 (dr rfl)).t (by rw[l.e];rfl);have N:=H r;clear q r))
  exact⟨ai.y _ N.y M.a,by simp[intOf];omega⟩
 obtain rfl:k=f.length:=by omega
 have:¬(f.length:Int)<f.length:=by omega
 have⟨aC,aE⟩:=eX u;subst aE;have⟨A',aM,aF,aO,_,aj⟩:=tI y;injection aF with e1 _ aH;subst e1 aH;have q:=aeH ae (ints (jJ f md f.length)) af aC (by rw[iL,<-z];unfold maxLen;omega) aj;rw[Y3 T,iL,<-z]at q;have⟨S,N⟩:=eX (Du f md);have⟨aR,ak⟩:=eX (zW (ints (jJ f md f.length)));rw[<-N,<-ak]at q;have⟨I,r⟩:=eX (Rl.tt f.length S);have⟨B,J⟩:=eX (Rl.lK f.length (n.row 0) I);have Q:=p.e;have ab:Rl.Ok f.length I:=by rw[r];exact Rl.Ub T S
 have al:Rl.Ok f.length B:=by rw[J];exact Rl.Dw Q ab
 have am:R=Rl.lK f.length B (n.row 0):=by rw[p.f,J,r,N];rfl
 have g:=pn (p.a.t (t.m p.a.size)) (p.b.Z t p.b.lt) (p.c.Z t) (p.d.Z t p.d.lt) Q ab al am J r;clear t y Q ab al am J r N ak aj z
 go_wp2_with fail
 refine q.m ?_;rintro e wf ⟨rfl,rfl⟩;clear q;go_wp2;refine Bl.sW 11 _ _ (.cells (ar 0 E) 53) (.cells (ar f.length B) 53) (by kernel_rfl) (by kernel_rfl) rfl rfl (fun a W=>Dx _ _ _ _ _ _) rfl rfl ?_;simp only[st1]
 iterate 3 (refine Bl.dK rfl (fun W q=>by simp[execOp,go_sem];rfl) ?_;simp only[o])
 refine Ao rfl (.tmp 52) rfl b 1 0 n A c f.length f rfl (dr rfl) ad rfl g.c ?_;simp only[o]
 iterate 2 (refine Bl.dK rfl (fun W q=>by simp[execOp,go_sem];rfl) ?_;simp only[o])
 refine Bl.mZ 182 #[.int .i64 f.length,.int .u64 (Bv.U S)] rfl (fun W=>by simp[execOp,go_sem]) (fun W q=>by have:=abY f.length S W T;rw[<-g.J]at this;exact this) ?_;simp only[o];refine Bl.mZ 75 #[.agg (ar f.length (n.row 0)),.agg (ar f.length I)] rfl (fun W=>by simp[execOp,go_sem]) (fun W q=>by have:=then_ok f.length (n.row 0) I W g.e g.f (g.d.Z q g.d.lt);rw[<-g.i]at this;exact this) ?_;simp only[o]
 repeat(refine Bl.dK rfl (fun W q=>by simp[execOp,go_sem];rfl) ?_;simp only[o])
 refine Bl.kr ?_;intro z;refine⟨Dg (.tmp 11) (.tmp 58) rfl z f.length 0 B E rfl rfl,?_⟩;intro Q r J y;have t:=bM (show aG Q z f.length B from y) (g.b.Z r g.b.lt) (g.a.t (r.m g.a.size)) (g.c.Z r) (g.d.Z r g.d.lt);clear r J y;simp only[o];go_wp2;refine Bl.sW 9 _ _ (.cells (ar 0 E) 53) (.cells (ar f.length R) 53) (by kernel_rfl) (by kernel_rfl) rfl rfl (fun a W=>Dx _ _ _ _ _ _) rfl rfl ?_;simp only[st1];refine KF rfl (.tmp 11) rfl z f.length B rfl t.a ?_;simp only[o]
 iterate 3 (refine Bl.dK rfl (fun W q=>by simp[execOp,go_sem];rfl) ?_;simp only[o])
 refine Ao rfl (.tmp 64) rfl b 1 0 n A c f.length f rfl (dr rfl) ad rfl t.d ?_;simp only[o];refine Bl.mZ 75 #[.agg (ar f.length B),.agg (ar f.length (n.row 0))] rfl (fun W=>by simp[execOp,go_sem]) (fun W q=>by have:=then_ok f.length B (n.row 0) W g.g g.e (t.E.Z q t.E.lt);rw[<-g.h]at this;exact this) ?_;simp only[o]
 repeat(refine Bl.dK rfl (fun W q=>by simp[execOp,go_sem];rfl) ?_;simp only[o])
 refine Bl.kr ?_;intro N;refine⟨Dg (.tmp 13) (.tmp 67) rfl N f.length 0 R E rfl rfl,?_⟩;intro ab r J y;have q:=aD (show aG ab N f.length R from y) (t.b.Z r t.b.lt) (t.c.t (r.m t.c.size));clear r J y;simp only[o]
 go_wp2_with (first|(refine kk rfl (.tmp 13) rfl N f.length R rfl q.a ?_)|(refine fY rfl (.tmp 4) (.tmp 69) rfl w.1.size f.length 0 R E rfl rfl q.b ?_;intro m r y))
 refine bK (qC rfl _ _ w.1.size 53 (ar f.length R) (0,0) _ rfl r gT rfl (jT _ _)) rfl ⟨rfl,q.C.b y q.C.size (fun j e=>by cases e;omega)⟩
end
def oY(q:UInt8)(a:List aN)(i:Nat):Bool:=(cw a i).ev.kind==q
def vL(a:List aN)(i:Nat):Bool:=(cw a i).ev.mode==3
def wA(b:Rl.Rows)(a:List aN)(i j:Nat):Bool:=Bv.G (b i) j||(vL a i||vL a j)
def Ep(b:Rl.Rows)(a:List aN)(i j:Nat):Bool:=oY 1 a i||(oY 2 a j||wA b a i j)
def AB(b c:Rl.Rows)(a:List aN)(i j:Nat):Bool:=oY 1 a i||(wA b a i j||(oY 2 a j&&(pt (cw a i) (cw a j)||Bv.G (c i) j)))
structure vU(W:World)(b:Nat)(X:XE)(A:Option Addr)(c:Nat)(F:List aN)(fu st:Rl.Rows):Prop where
 ex:eu W b X A c F
 full:∀i,i<48->W.cell? ⟨b,334+i,none⟩=some (.int .u64 (Bv.U (fu i)))
 OP:∀i,i<48->W.cell? ⟨b,432+i,none⟩=some (.int .u64 (Bv.U (st i)))
def vU.Z{W W'}{b}{X}{A}{c}{F}{fu st}(h:vU W b X A c F fu st)(f:Below W W W'):vU W' b X A c F fu st:=
 ⟨h.ex.Z f,fun i hi=>(f.C (p:=⟨b,334+i,none⟩) h.ex.lt).t (h.full i hi),fun i hi=>(f.C (p:=⟨b,432+i,none⟩) h.ex.lt).t (h.OP i hi)⟩
def eu.at{W}{b}{X}{A}{c}{F}(h:eu W b X A c F){i:Nat}(hi:i<F):∃f g,A=some ⟨f,g,none⟩/\∀j,j<7->W.cell? ⟨f,g+i*7+j,none⟩=some (a6 (cw F i) j):=by
 have⟨f,g,e,_,o⟩:=h.ev (by omega);exact⟨f,g,e,fun j r=>o i _ (jl hi) j r⟩
def ON(b)(X)(A)(c)(F)(i:Nat)(w)(h:eu w b X A c F)(f:i<F):
 Calls prog 186 #[.pointer b,.int .i64 i] w fun e g=>e=(oY 1 F i)/\g=w:=by
 obtain⟨l,m,rfl,a⟩:=h.at f;have j:=a 1 (dr rfl);rw[show a6 (cw F i) 1= .int .u8 (Y (cw F i).ev.kind)from rfl]at j;have:=h.uv;have:(i:Int)<F:=by omega
 have:(Y (cw F i).ev.kind==1)=oY 1 F i:=zw _ 1;clear a h;go_enter func186,ntmps186;go_wp2;go_ret;exact⟨rfl,rfl⟩
def SQ(b)(X)(A)(c)(F)(i:Nat)(w)(h:eu w b X A c F)(f:i<F):
 Calls prog 187 #[.pointer b,.int .i64 i] w fun e g=>e=(oY 2 F i)/\g=w:=by
 obtain⟨l,m,rfl,a⟩:=h.at f;have j:=a 1 (dr rfl);rw[show a6 (cw F i) 1= .int .u8 (Y (cw F i).ev.kind)from rfl]at j;have:=h.uv;have:(i:Int)<F:=by omega
 have:(Y (cw F i).ev.kind==2)=oY 2 F i:=zw _ 2;clear a h;go_enter func187,ntmps187;go_wp2;go_ret;exact⟨rfl,rfl⟩
def Pf(b)(X)(A)(c)(F)(i:Nat)(w)(h:eu w b X A c F)(g:i<F):
 Calls prog 191 #[.pointer b,.int .i64 i,.int .u8 3] w fun e j=>e=(vL F i)/\j=w:=by
 obtain⟨m,n,rfl,a⟩:=h.at g;have l:=a 4 (dr rfl);rw[show a6 (cw F i) 4= .int .u8 (Y (cw F i).ev.mode)from rfl]at l;have:=h.uv;have:(i:Int)<F:=by omega
 have e1:(Y (cw F i).ev.mode==3)=vL F i:=zw _ 3;have⟨R,f⟩:=eX (vL F i);rw[<-f]at e1⊢;clear a h f;go_enter func191,ntmps191;cases R with
 |true=>
  go_wp2;go_ret;simp_all
 |false=>
  go_wp2;go_ret;simp_all
def P2(b)(X)(A)(c)(F)(fu st)(i j:Nat)(w)(h:vU w b X A c F fu st)(v:F.length<=48)(q:i<F)(r:j<F):
 Calls prog 188 #[.pointer b,.int .i64 i,.int .i64 j] w fun e s=>e=(wA fu F i j)/\s=w:=by
 have n:=Dr b 333 i j (fu i) w (by omega) (by omega) (by rw[show 333+1+i=334+i by omega];exact h.full i (by omega));have o:=Pf b X A c F i w h.ex q;have p:=Pf b X A c F j w h.ex r;have⟨R,a⟩:=eX (wA fu F i j);rw[<-a];unfold wA at a;have⟨t,f⟩:=eX (Bv.G (fu i) j);have⟨u,g⟩:=eX (vL F i);have⟨x,l⟩:=eX (vL F j);rw[<-f,<-g,<-l]at a;rw[<-f]at n;rw[<-g]at o;rw[<-l]at p;have m:=H a;clear h f g l a;go_enter func188,ntmps188
 go_wp2_with fail
 refine n.m ?_;rintro e a ⟨rfl,rfl⟩;cases t with
 |true=>
  go_wp2;go_ret;exact⟨by rw[m.y];rfl,rfl⟩
 |false=>
  go_wp2_with fail
  refine o.m ?_;rintro e a ⟨rfl,rfl⟩;cases u with
  |true=>
   go_wp2;go_ret;exact⟨by rw[m.y];rfl,rfl⟩
  |false=>
   go_wp2_with fail
   refine p.m ?_;rintro e a ⟨rfl,rfl⟩;go_wp2;go_ret;exact⟨by rw[m.y];rfl,rfl⟩
def Y4(v a b)(w):Calls prog 184 #[v,a,b] w fun e c=>e=true/\c=w:=by
 go_enter func184,ntmps184;go_wp2;go_ret;exact⟨rfl,rfl⟩
def afp(b)(X)(A)(c)(F)(fu st)(i j:Nat)(w)(h:vU w b X A c F fu st)(s:F.length<=48)(n:i<F)(o:j<F):
 Calls prog 185 #[.pointer b,.int .i64 i,.int .i64 j] w fun e t=>e=(Ep fu F i j)/\t=w:=by
 have p:=ON b X A c F i w h.ex n;have q:=SQ b X A c F j w h.ex o;have r:=P2 b X A c F fu st i j w h s n o;have⟨R,a⟩:=eX (Ep fu F i j);rw[<-a];unfold Ep at a;have⟨u,f⟩:=eX (oY 1 F i);have⟨v,g⟩:=eX (oY 2 F j);have⟨x,l⟩:=eX (wA fu F i j);rw[<-f,<-g,<-l]at a;rw[<-f]at p;rw[<-g]at q;rw[<-l]at r;have m:=H a;clear h f g l a;go_enter func185,ntmps185
 go_wp2_with fail
 refine p.m ?_;rintro e a ⟨rfl,rfl⟩;cases u with
 |true=>
  go_wp2;go_ret;exact⟨by rw[m.y];rfl,rfl⟩
 |false=>
  go_wp2_with fail
  refine q.m ?_;rintro e a ⟨rfl,rfl⟩;cases v with
  |true=>
   go_wp2;go_ret;exact⟨by rw[m.y];rfl,rfl⟩
  |false=>
   go_wp2_with fail
   refine r.m ?_;rintro e a ⟨rfl,rfl⟩;go_wp2;go_ret;exact⟨by rw[m.y];rfl,rfl⟩
def acI(b)(X)(A)(c)(F)(fu st)(i j:Nat)(w)(h:vU w b X A c F fu st)(x:F.length<=48)(g:i<F)(l:j<F):
 Calls prog 189 #[.pointer b,.int .i64 i,.int .i64 j] w (Rs (AB fu st F i j) w):=by
 have s:=ON b X A c F i w h.ex g;have t:=P2 b X A c F fu st i j w h x g l;have u:=SQ b X A c F j w h.ex l;have v:=O6 b X A c F i j w h.ex g l;have m:∀W,Below w w W->Calls prog 71 #[.pointer (some ⟨b,431,none⟩),.int .i64 i,.int .i64 j] W fun e y=>e=(Bv.G (st i) j)/\y=W:=fun W z=>
  Dr b 431 i j (st i) W (by omega) (by omega) (by rw[show 431+1+i=432+i by omega];exact(h.Z z).OP i (by omega))
 have⟨R,a⟩:=eX (AB fu st F i j);rw[<-a];unfold AB at a;have⟨C,n⟩:=eX (oY 1 F i);have⟨E,o⟩:=eX (wA fu F i j);have⟨I,p⟩:=eX (oY 2 F j);have⟨J,q⟩:=eX (pt (cw F i) (cw F j));have⟨M,r⟩:=eX (Bv.G (st i) j);rw[<-n,<-o,<-p,<-q,<-r]at a;rw[<-n]at s;rw[<-o]at t;rw[<-p]at u;rw[<-q]at v;rw[<-r]at m;have f:=H a;have L:=H m;clear h n o p q r a m;go_enter func189,ntmps189
 go_wp2_with fail
 refine s.m ?_;rintro e m ⟨rfl,rfl⟩;cases C with
 |true=>
  go_wp2;go_ret;exact⟨by rw[f.y];rfl,aP _ _⟩
 |false=>
  go_wp2_with fail
  refine t.m ?_;rintro e m ⟨rfl,rfl⟩;cases E with
  |true=>
   go_wp2;go_ret;exact⟨by rw[f.y];rfl,aP _ _⟩
  |false=>
   go_wp2_with fail
   refine u.m ?_;rintro e m ⟨rfl,rfl⟩;cases I with
   |false=>
    go_wp2;go_ret;exact⟨by rw[f.y];rfl,aP _ _⟩
   |true=>
    go_wp2_with fail
    refine v.st fun o n=>?_;have a:=H n;cases J with
    |true=>
     go_wp2;go_ret;exact⟨by rw[f.y];rfl,a.y⟩
    |false=>
     go_wp2_with fail
     refine(L.y _ a.y).m ?_;rintro e p ⟨rfl,rfl⟩;go_wp2;go_ret;exact⟨by rw[f.y];rfl,a.y⟩
def x9(b:Rl.Rows)(c:Nat->Nat->Bool)(a:List aN)(i j:Nat):Bool:=Bv.G (b i) j&&(j3 (cw a i)&&(j3 (cw a j)&&c i j))
section
attribute [local irreducible] Code.wp wpList Oper.wp wpQuiet
def agb(p ad ae af m f:Nat)(q:XE)(A:Option Addr)(c:Nat)(g:List aN)(r:Nat->Nat->Bool)(i j:Nat)(w:World)(h:eu w p q A c g)(ag:w.cell? ad=some (.pointer p))(ah:w.cell? af=some (.int .u8 m))
 (au:m<7)(ai:w.cell? ⟨ae,m,none⟩=some (.func (.func f) #[] #[]))(av:∀args w,(callFunc f args).run prog w= .ok (.enter f args) w)
 (aj:∀W,Below w.1.size w W->Calls prog f #[.pointer p,.int .i64 i,.int .i64 j] W (Rs (.bool (r i j)) W))(a:g.length<=48)(a:i<g.length)(b:j<g.length):
 Calls prog 124 (#[.int .i64 i,.int .i64 j]++#[.pointer ad,.pointer ae,.pointer af]) w (Rs (.bool (x9 (q.row 0) r g i j)) w):=by
 have⟨x,E⟩:=eX (cw g i);have⟨y,I⟩:=eX (cw g j);obtain⟨l,n,rfl,ak,al⟩:=h.ev.row (aP _ _) (E▸jl a);have⟨_,_,L,_,am⟩:=h.ev.row (aP _ _) (I▸jl b);injection L with L;injection L with e1 e2 _;subst e1 e2;have an:=h.uv;have s:=fun d b=>bO an d b;have t:=fun d b=>bO ag d b;have u:=fun d b=>bO ah d b;have g3:=fun d b=>bO ai d b;have v:=H (Hp al ak);have z:=H (Hp am ak);have⟨R,o⟩:=eX (x9 (q.row 0) r g i j);rw[<-o];unfold x9 at o;rw[<-E,<-I]at o;have M:∀d b,Calls prog 71 #[.pointer (some ⟨p,1,none⟩),.int .i64 i,.int .i64 j] (Go.Sort.grow (redrawn w d) b) fun e N=>e= .returned (.bool (Bv.G (q.row 0 i) j))/\Below (Go.Sort.grow (redrawn w d) b) (Go.Sort.grow (redrawn w d) b) N:=fun d b=>
  (Dr p 1 i j (q.row 0 i) _ (by omega) (by omega) (by have:=(h.Z (jO w d b)).row 0 i (dr rfl) (by omega);rw[show 49*0+2+i=1+1+i by omega]at this;exact this)).m fun _ _ h=>⟨h.1,by rw[h.2];exact aP _ _⟩
 have O:∀W,Calls prog 113 #[.agg (J 7 (a6 x))] W (Rs (.bool (j3 x)) W):=FG x;have P:∀W,Calls prog 113 #[.agg (J 7 (a6 y))] W (Rs (.bool (j3 y)) W):=FG y;have Q:∀d b,Calls prog f #[.pointer p,.int .i64 i,.int .i64 j] (Go.Sort.grow (redrawn w d) b) fun e N=>e= .returned (.bool (r i j))/\Below (Go.Sort.grow (redrawn w d) b) (Go.Sort.grow (redrawn w d) b) N:=fun d b=>aj _ (jO w d b);have⟨ap,T⟩:=eX (Bv.G (q.row 0 i) j);have⟨aq,X⟩:=eX (j3 x);have⟨ar,aa⟩:=eX (j3 y);have⟨ao,ab⟩:=eX (r i j);rw[<-T,<-X,<-aa,<-ab]at o;rw[<-T]at M;rw[<-X]at O;rw[<-aa]at P;rw[<-ab]at Q;have C:=H o;have a:=aY M O P Q;have:(i:Int)<g.length:=by omega
 have:(j:Int)<g.length:=by omega
 have:(m:Int)<7:=by omega
 clear h E I al am an ag ah ai aj T X aa ab o M O P Q;go_enter func124,ntmps124;cases ap with
 |false=>
  go_wp2_with fail
  refine bV (by kernel_rfl) ?_
  repeat(first|(refine kM rfl 143 (.tmp 22) rfl l (n+i*7) 7 rfl _ _ v.y iy rfl eH ?_)|(refine kM rfl 143 (.tmp 33) rfl l (n+j*7) 7 rfl _ _ z.y iy rfl eH ?_)|go_big_quiet_step (first|(go_at_call 71;with_reducible exact aX (a.a _ _))|(go_at_call 113;first|with_reducible exact aX (a.b _)|with_reducible exact aX (a.c _))|(go_at_fn f;with_reducible exact aX (a.D _ _)))|quiet_step (first|(go_at_call 71;with_reducible exact aX (a.a _ _))|(go_at_call 113;first|with_reducible exact aX (a.b _)|with_reducible exact aX (a.c _))|(go_at_fn f;with_reducible exact aX (a.D _ _))))
  refine qh fun E o=>?_;clear s t u g3;go_wp2;go_ret;exact⟨by rw[C.y];rfl,o.y⟩
 |true=>
  cases aq with
  |false=>
   go_wp2_with fail
   refine bV (by kernel_rfl) ?_
   repeat(first|(refine kM rfl 143 (.tmp 22) rfl l (n+i*7) 7 rfl _ _ v.y iy rfl eH ?_)|(refine kM rfl 143 (.tmp 33) rfl l (n+j*7) 7 rfl _ _ z.y iy rfl eH ?_)|go_big_quiet_step (first|(go_at_call 71;with_reducible exact aX (a.a _ _))|(go_at_call 113;first|with_reducible exact aX (a.b _)|with_reducible exact aX (a.c _))|(go_at_fn f;with_reducible exact aX (a.D _ _)))|quiet_step (first|(go_at_call 71;with_reducible exact aX (a.a _ _))|(go_at_call 113;first|with_reducible exact aX (a.b _)|with_reducible exact aX (a.c _))|(go_at_fn f;with_reducible exact aX (a.D _ _))))
   refine qh fun E o=>?_;clear s t u g3;go_wp2;go_ret;exact⟨by rw[C.y];rfl,o.y⟩
  |true=>
   cases ar with
   |false=>
    go_wp2_with fail
    refine bV (by kernel_rfl) ?_
    repeat(first|(refine kM rfl 143 (.tmp 22) rfl l (n+i*7) 7 rfl _ _ v.y iy rfl eH ?_)|(refine kM rfl 143 (.tmp 33) rfl l (n+j*7) 7 rfl _ _ z.y iy rfl eH ?_)|go_big_quiet_step (first|(go_at_call 71;with_reducible exact aX (a.a _ _))|(go_at_call 113;first|with_reducible exact aX (a.b _)|with_reducible exact aX (a.c _))|(go_at_fn f;with_reducible exact aX (a.D _ _)))|quiet_step (first|(go_at_call 71;with_reducible exact aX (a.a _ _))|(go_at_call 113;first|with_reducible exact aX (a.b _)|with_reducible exact aX (a.c _))|(go_at_fn f;with_reducible exact aX (a.D _ _))))
    refine qh fun E o=>?_;clear s t u g3;go_wp2;go_ret;exact⟨by rw[C.y];rfl,o.y⟩
   |true=>
    have:(ao==ao)=true:=by simp
    go_wp2_with fail
    refine bV (by kernel_rfl) ?_
    repeat(first|(refine kM rfl 143 (.tmp 22) rfl l (n+i*7) 7 rfl _ _ v.y iy rfl eH ?_)|(refine kM rfl 143 (.tmp 33) rfl l (n+j*7) 7 rfl _ _ z.y iy rfl eH ?_)|go_big_quiet_step (first|(go_at_call 71;with_reducible exact aX (a.a _ _))|(go_at_call 113;first|with_reducible exact aX (a.b _)|with_reducible exact aX (a.c _))|(go_at_fn f;with_reducible exact aX (a.D _ _)))|quiet_step (first|(go_at_call 71;with_reducible exact aX (a.a _ _))|(go_at_call 113;first|with_reducible exact aX (a.b _)|with_reducible exact aX (a.c _))|(go_at_fn f;with_reducible exact aX (a.D _ _))))
    refine qh fun E o=>?_;clear s t u g3;go_wp2;go_ret;exact⟨by rw[C.y];rfl,o.y⟩
end
def AV(m:Nat)(a c:Rl.Rows)(b:List aN)(i j:Nat):Bool:=if m=2 then true else if m=3 then Ep a b i j else AB a c b i j
def wN(m:Nat)(b:Rl.Rows)(a:List aN):Rl.Rows:=pP a.length (x9 b (AV m (ph a 3 b) (ph a 5 b) a) a)
def yE:Array Value:=#[.nilFunc,.func (.func 183) #[] #[],.func (.func 184) #[] #[],.func (.func 185) #[] #[],.func (.func 189) #[] #[],.func (.func 190) #[] #[],.func (.func 192) #[] #[]]
def WV:prog.underlying 234=some (.array 7 233):=by kernel_rfl
def Mm:(prog.info? 234).map (·.size)=some 7:=by kernel_rfl
def RZ:yE=J 7 fun i=>yE[i]!:=uR yE
def WX(w):Calls prog 123 #[] w (Rs yE w):=by
 have b:aj (w.alloc (.cells #[.nilFunc,.nilFunc,.nilFunc,.nilFunc,.nilFunc,.nilFunc,.nilFunc] 234)) w 234 7 (fun _=> .nilFunc):=aj.dq _ _ _ _ _ rfl;have a:=aA b (ba w (.cells #[.nilFunc,.nilFunc,.nilFunc,.nilFunc,.nilFunc,.nilFunc,.nilFunc] 234));go_enter func123,ntmps123
 go_wp2_with (refine eP rfl 234 (.tmp 0) (.tmp 7) rfl w 0 7 7 _ (fun _=> .nilFunc) (fun i=>yE[i]!) rfl rfl a.a (dr rfl) Mm (fun i c=>by obtain _|_|_|_|_|_|_|i:=i<;>first|rfl|omega) ?_;intro h f g)
 have h:=f.congr fun i c=>by unfold bm;rw[aq ⟨by omega,by omega⟩,ez]
 refine bK (mT rfl _ h _ rfl WV rfl Mm) rfl ?_;exact⟨by rw[<-RZ],a.B.b g a.B.size (fun k e=>by cases e;omega)⟩
def ae7(m)(q:2<=m)(r:m<=4):∃f,yE[m]! = .func (.func f) #[] #[]/\(∀args w,(callFunc f args).run prog w= .ok (.enter f args) w)/\∀(b:Nat)(l:XE)(A:Option Addr)(c:Nat)(a:List aN)(e g:Rl.Rows)(i j:Nat)(w:World),vU w b l A c a e g->a.length<=48->i<a->j<a->
 Calls prog f #[.pointer b,.int .i64 i,.int .i64 j] w (Rs (AV m e g a i j) w):=by
 obtain _|_|_|_|_|m:=m
 .omega
 .omega
 .exact⟨_,rfl,fun args w=>by kernel_rfl,fun b l A c a e g i j w h _ _ _=>(Y4 _ _ _ w).m fun _ _ h=>⟨h.1,by rw[h.2];exact aP _ _⟩⟩
 .exact⟨_,rfl,fun args w=>by kernel_rfl,fun b l A c a e g i j w h n o p=>(afp b l A c a e g i j w h n o p).m fun _ _ h=>⟨h.1,by rw[h.2];exact aP _ _⟩⟩
 .exact⟨_,rfl,fun args w=>by kernel_rfl,fun b l A c a e g i j w h n o p=>acI b l A c a e g i j w h n o p⟩
 omega
def oH(g:Nat->Value)(i:Nat):Value:=if i<333 then g i else if(i-333)%49=0 then .int .i64 0 else .int .u64 0
def Vy(g:Nat->Value)(w:World):(Instr.build 229 #[(0,.agg (J 333 g))]).run prog w= .ok (J 480 (oH g)) w:=by kernel_rfl
def UT(g)(ev)(o)(w)(a:o.op= .build 229 #[(0,.tmp 9)])(h:ev (.tmp 9)= .agg (J 333 g)):(execOp ev o).run prog w= .ok (.value (J 480 (oH g))) w:=by
 have:=Vy g w;unfold execOp;simp_all
def eu.whole{W}{b}{X}{A}{c}{F}(h:eu W b X A c F):W.rangeAt b 0 ((List.range 333).map (xG X (.slice A F c))):=by
 intro j v g;have f:j<333:=by grind
 rw[cK,h.cells _ f]
 grind
section
attribute [local irreducible] Code.wp wpList Oper.wp wpQuiet
def Fp{P}{w}{ops}{o}{a}{K}{Q}{E}(c:o.guard=none)(f)(args)(R:Value->World->Prop)
 (g:(execOp a.eval o).run P w= .ok (.enter f args) w)(i:Calls P f args w fun e b=>∃v,e= .returned v/\R v b)(h:∀v b,R v b->K (a.put o.dst v) b):
 if Region.wanted o (yielded ops a.tmps)=true then Oper.wp P o a w K Q else E:=by
 have j:Region.wanted o (yielded ops a.tmps)=true:=by simp[Region.wanted,c]
 rw[aq j];unfold Oper.wp;rw[g];refine i.m ?_;rintro e b ⟨v,rfl,l⟩;exact h v b l
def CM{P:Program}{w}{ops}{op}{a}{K}{Q}{E}(j:op.guard=none)(ty)(x y)(l:op.op= .store ty x y)(b o m n)(t)(g f)(p:a.eval x= .pointer (some ⟨b,o,none⟩))(q:a.eval y= .agg (J m f))
 (e:aj w b t n g)(r:o+m<=n)(s:(P.info? ty).map (·.size)=m)(u:∀i,i<m->(f i).oneCell'=true)
 (h:∀c,aj c b t n (bm g o m f)->w.grownBy c (some b)->K (a.put op.dst undef) c):
 if Region.wanted op (yielded ops a.tmps)=true then Oper.wp P op a w K Q else E:=by
 have c:Region.wanted op (yielded ops a.tmps)=true:=by simp[Region.wanted,j]
 rw[aq c];exact wp_store_mid ty x y l b o _ p q (by rw[dF];exact e.there o m r) (by simp_all) (CU fun v z=>by
  grind) (h _ (by rw[sg];exact e.setCells m o f) (vx _ _ _ _))
def LB(n)(f)(i):(dz n f i).oneCell'=true:=by unfold dz;split<;>rfl
def abn(m b:Nat)(n:XE)(A:Option Addr)(c:Nat)(g:List aN)(w:World)(t:eu w b n A c g)(aw:2<=m)(ax:m<=4)(X:g.length<=48)(ay:n.n=(g:Int))(z:Rl.Ok g (n.row 0))(q:bh w):
 Calls prog 79 #[.int .u8 m,.pointer b] w (Rs (ar g.length (wN m (n.row 0) g)) w):=by
 have:=jk;have⟨R,r⟩:=eX (wN m (n.row 0) g);rw[<-r];go_enter func79,ntmps79
 go_upto_region 1 with fail
 have⟨x,y⟩:=eX ((w.alloc (.cells #[.int .u8 m] 5)).alloc (.cells (ar 0 E) 53));rw[<-y];have l:Below w w x:=by rw[y];exact(ba w _).alloc (by simp) _
 have I:x.1.size=w+2:=by simp_all
 have C:x.cell? w=some (.int .u8 m):=by
  simp_all
 have L:aG x (w+1) 0 E:=by
  have:=aG.new (w.alloc (.cells #[.int .u8 m] 5)) 0 E;simp_all
 have s:=jR l C L (t.Z l) (q.Z l q.lt) z r y;clear t q l C L z r y
 go_upto_region 2 with((refine iI rfl 60 (.tmp 8) rfl b 0 rfl ((List.range 333).map (xG n (.slice A g c))) _ s.d.whole vM rfl (by rw[pV];simp) ?_;rw[show((List.range 333).map (xG n (.slice A g c))).toArray=J 333 (xG n (.slice A g c))from rfl];simp only[o];refine BG rfl 229 #[(0,.tmp 9)] rfl (J 480 (oH (xG n (.slice A g.length c)))) (UT _ _ _ _ rfl rfl) ?_;simp only[o];have⟨z,q⟩:=eX (J 333 (xG n (.slice A g c)));have⟨r,l⟩:=eX (J 480 (oH (xG n (.slice A g c))));rw[<-q,<-l];have:¬r=#[]:=(by intro h;have:=cg Array.size h;rw[l,dF]at this;simp at this);have t:=aA q l;clear q l))
 have⟨l,C⟩:=eX (w.1.size+2);rw[<-C];have⟨N,q⟩:=eX ((x.alloc (.cells r 229)).alloc (.cells #[.pointer l] 227));rw[<-q];have ab:aj N l 229 480 (oH (xG n (.slice A g c))):=by
  have:=aj.dq x 229 480 _ r t.B;rw[I,<-C]at this;rw[q];exact this.alloc _
 have ad:Below l x N:=by rw[q];exact((aP _ x).alloc (by omega) _).alloc (by simp_all) _
 have ae:N.cell? (l+1:Nat)=some (.pointer l):=by
  have h:=kN (x.alloc (.cells r 229)) (.pointer l) 227;rw[cT,I,<-C]at h;rw[q];exact h 0 _ rfl
 have r:l=x:=by omega
 have L:∀(md:UInt8) V,Below l x V->Calls prog 122 #[.pointer b,md] V fun e az=>∃v,e= .returned v/\(v= .agg (ar g (ph g md (n.row 0)))/\Below V V az):=fun md V ah=>by
  rw[r]at ah;exact(aaa b n A c g md V (s.d.Z ah) X ay s.f (s.e.Z ah s.e.lt)).m fun _ _ h=>⟨_,h.1,rfl,h.2⟩
 have⟨z,O⟩:=eX (ph g 3 (n.row 0));have⟨ai,af⟩:=eX (ph g 4 (n.row 0));have⟨M,P⟩:=eX (ph g 5 (n.row 0));have Q:=L 3;have T:=L 4;have aa:=L 5;rw[<-O]at Q;rw[<-af]at T;rw[<-P]at aa;have t:=gQ ab ad ae Q T aa O P r;clear ab ad ae L Q T aa O af P q r C I;refine EF (S:=fun W=>W.cell? (l+1:Nat)=some (.pointer l)) (by kernel_rfl) t.c ?_;intro C;have q:aj N.drew l 229 480 (oH (xG n (.slice A g c)))/\Below l x N.drew:=⟨t.a,⟨t.b.os,t.b.tape,t.b.output,t.b.size,t.b.block⟩⟩
 have O:=H q;clear q;generalize N.drew=aB at*
 refine dY 0 (.pointer l) (by simp only[u];rfl) (by kernel_rfl) (by exact fun _ _ _ h=>h) (.inl ⟨by rfl,fun W q=>by simp[execOp,go_sem,q]⟩) C ?_;simp only[o];refine dY 1 (.pointer l) (by simp only[u];rfl) (by kernel_rfl) (by exact fun _ _ _ h=>h) (.inl ⟨by rfl,fun W q=>by simp[execOp,go_sem,q]⟩) C ?_;simp only[o];refine dY 2 (.pointer l) (by simp only[u];rfl) (by kernel_rfl) (by exact fun _ _ _ h=>h) (.inl ⟨by rfl,fun W q=>by simp[execOp,go_sem,q]⟩) C ?_;simp only[o];refine dY 3 (.pointer b) (by simp only[u];rfl) (by kernel_rfl) (by exact fun _ _ _ h=>h) (.inl ⟨by rfl,fun W q=>by simp[execOp,go_sem,q]⟩) C ?_;simp only[o];refine dY 5 (.pointer b) (by simp only[u];rfl) (by kernel_rfl) (by exact fun _ _ _ h=>h) (.inl ⟨by rfl,fun W q=>by simp[execOp,go_sem,q]⟩) C ?_;simp only[o];refine dY 7 (.pointer b) (by simp only[u];rfl) (by kernel_rfl) (by exact fun _ _ _ h=>h) (.inl ⟨by rfl,fun W q=>by simp[execOp,go_sem,q]⟩) C ?_;simp only[o];refine mS (rs:=[4]) (by kernel_rfl) (by simp) (lv (by simp only[u];rfl) (fun Q I=>?_) mE);refine Fp rfl 122 #[.pointer b,.int .u8 3] _ (by simp[execOp,go_sem]) (t.d aB O.B) ?_;rintro e am ⟨rfl,r⟩;have P:=aA ((O.a.Z r O.a.lt:aj am l 229 480 (oH (xG n (.slice A g c))))) (O.B.t (r.m (nu O.a.lt)));refine I.y _ _ ((r.C (p:=(l+1:Nat)) (oU _ _ C)).t C) fun ak=>?_;clear I Q r;simp only[o];refine mS (rs:=[6]) (by kernel_rfl) (by simp) (lv (by simp only[u];rfl) (fun T I=>?_) mE);refine Fp rfl 122 #[.pointer b,.int .u8 4] _ (by simp[execOp,go_sem]) (t.e am P.B) ?_;rintro e an ⟨rfl,r⟩;have Q:=aA ((P.a.Z r P.a.lt:aj an l 229 480 (oH (xG n (.slice A g c))))) (P.B.t (r.m (nu P.a.lt)));refine I.y _ _ ((r.C (p:=(l+1:Nat)) (oU _ _ ak)).t ak) fun al=>?_;clear I T r;simp only[o];refine mS (rs:=[8]) (by kernel_rfl) (by simp) (lv (by simp only[u];rfl) (fun T I=>?_) mE);refine Fp rfl 122 #[.pointer b,.int .u8 5] _ (by simp[execOp,go_sem]) (t.f an Q.B) ?_;rintro e aC ⟨rfl,r⟩;have aa:=aA ((Q.a.Z r Q.a.lt:aj aC l 229 480 (oH (xG n (.slice A g c))))) (Q.B.t (r.m (nu Q.a.lt)));refine I.y _ _ ((r.C (p:=(l+1:Nat)) (oU _ _ al)).t al) fun ab=>?_;clear I T r;simp only[o];refine dY 9 (.pointer l) (by simp only[u];rfl) (by kernel_rfl) (by exact fun _ _ _ h=>h) (.inl ⟨by rfl,fun W q=>by simp[execOp,go_sem,q]⟩) ab ?_;simp only[o];refine dY 10 (.pointer (some ⟨l,333,none⟩)) (by simp only[u];rfl) (by kernel_rfl) (by exact fun _ _ _ h=>h) (.inl ⟨by rfl,fun W q=>by simp[execOp,go_sem,q]⟩) ab ?_;simp only[o];refine mS (rs:=[11]) (by kernel_rfl) (by simp) (lv (by simp only[u];rfl) (fun ag T=>?_) mE);refine CM rfl 53 (.tmp 22) (.tmp 16) rfl l 333 49 480 229 (oH (xG n (.slice A g c))) (dz g z) rfl (cg Value.agg (nN _ _)) aa.a (dr rfl) pq (fun i _=>LB _ _ _) ?_;intro aJ I r;have af:=(r.C (a:=(l+1:Nat)) ab (by grind))
 have ad:=aA I (aa.B.b r (nu aa.a.lt) (fun j e=>by grind));refine T.y _ _ af fun ae=>?_;clear T ag I r af;simp only[o];refine dY 12 (.pointer l) (by simp only[u];rfl) (by kernel_rfl) (by exact fun _ _ _ h=>h) (.inl ⟨by rfl,fun W q=>by simp[execOp,go_sem,q]⟩) ae ?_;simp only[o];refine dY 13 (.pointer (some ⟨l,382,none⟩)) (by simp only[u];rfl) (by kernel_rfl) (by exact fun _ _ _ h=>h) (.inl ⟨by rfl,fun W q=>by simp[execOp,go_sem,q]⟩) ae ?_;simp only[o];refine mS (rs:=[14]) (by kernel_rfl) (by simp) (lv (by simp only[u];rfl) (fun ap T=>?_) mE);refine CM rfl 53 (.tmp 24) (.tmp 18) rfl l 382 49 480 229 (bm (oH (xG n (.slice A g c))) 333 49 (dz g z)) (dz g ai) rfl (cg Value.agg (nN _ _)) ad.a (dr rfl) pq (fun i _=>LB _ _ _) ?_;intro aK I r;have ao:=(r.C (a:=(l+1:Nat)) ae (by grind))
 have af:=aA I (ad.B.b r (nu ad.a.lt) (fun j e=>by grind));refine T.y _ _ ao fun ag=>?_;clear T ap I r ao;simp only[o];refine dY 15 (.pointer l) (by simp only[u];rfl) (by kernel_rfl) (by exact fun _ _ _ h=>h) (.inl ⟨by rfl,fun W q=>by simp[execOp,go_sem,q]⟩) ag ?_;simp only[o];refine dY 16 (.pointer (some ⟨l,431,none⟩)) (by simp only[u];rfl) (by kernel_rfl) (by exact fun _ _ _ h=>h) (.inl ⟨by rfl,fun W q=>by simp[execOp,go_sem,q]⟩) ag ?_;simp only[o];refine mS (rs:=[17]) (by kernel_rfl) (by simp) (lv (by simp only[u];rfl) (fun av ao=>?_) mE);refine CM rfl 53 (.tmp 26) (.tmp 20) rfl l 431 49 480 229 (bm (bm (oH (xG n (.slice A g c))) 333 49 (dz g z)) 382 49 (dz g ai)) (dz g M) rfl (cg Value.agg (nN _ _)) af.a (dr rfl) pq (fun i _=>LB _ _ _) ?_;intro aE I r;have ap:=(r.C (a:=(l+1:Nat)) ag (by grind))
 have T:=aA I (af.B.b r (nu af.a.lt) (fun j e=>by grind));refine ao.y _ _ ap fun au=>?_;clear ao av I r ap;simp only[o];refine Fi (by kernel_rfl) ?_ _;have⟨aL,r⟩:=eX (bm (bm (bm (oH (xG n (.slice A g c))) 333 49 (dz g z)) 382 49 (dz g ai)) 431 49 (dz g M));rw[<-r]at T;clear C ak al ab ae ag;have I:=aA au r;clear au O P Q aa ad af r
 go_wp2_with fail
 refine(WX aE).st fun C r=>?_;have O:=aA (show aj (C.alloc (.cells #[.nilFunc,.nilFunc,.nilFunc,.nilFunc,.nilFunc,.nilFunc,.nilFunc] 234)) C 234 7 (fun _=> .nilFunc)from aj.dq _ _ _ _ _ rfl) r;clear r
 go_upto_region 4 with(refine eP rfl 234 (.tmp 6) (.tmp 27) rfl C 0 7 7 _ (fun _=> .nilFunc) (fun i=>yE[i]!) rfl (cg Value.agg RZ) O.a (dr rfl) Mm (fun i r=>by obtain _|_|_|_|_|_|_|i:=i<;>first|rfl|omega) ?_;intro al ao ap)
 have Q:=(O.B.alloc O.B.size _).b ap (by rw[cT];have:=O.B.size;omega) (fun j e=>by cases e;have:=O.B.size;omega);have aa:=ao.congr fun i r=>by unfold bm;rw[aq ⟨by omega,by omega⟩,ez]
 have ab:=(Q.C (p:=(l+1:Nat)) (oU _ _ I.a)).t I.a;have P:=T.a.Z Q T.a.lt;have au:=T.B.t (Q.m (nu T.a.lt));have y:=t.I▸au;have ad:=s.d.Z y;have ae:vU al l n A c g z M:=by
  refine⟨⟨fun i r=>?_,ad.ev,P.lt⟩,fun i r=>?_,fun i r=>?_⟩
  .rw[P.C i (by omega),I.B,kE _ _ _ _ (by omega),kE _ _ _ _ (by omega),kE _ _ _ _ (by omega)];unfold oH
   grind
  .rw[P.C _ (by omega),I.B,kE _ _ _ _ (by omega),kE _ _ _ _ (by omega)];unfold bm dz
   grind
  rw[P.C _ (by omega),I.B];unfold bm dz
  grind
 have⟨f,L,aF,av⟩:=ae7 m aw ax;have af:=(y.C (p:=w) (oU _ _ s.b)).t s.b;have ag:=aa.C m (by omega);rw[L]at ag;have ak:=Lv g 124 #[.pointer (l+1:Nat),.pointer C,.pointer w] (x9 (n.row 0) (AV m z M g) g) al X (fun _ _=>by kernel_rfl) (fun i j W r al q=>
  agb l (l+1) C w m f n A c g (AV m z M g) i j W (ae.ex.Z q) ((q.C (p:=(l+1:Nat)) (oU _ _ ab)).t ab) ((q.C (p:=w) (oU _ _ af)).t af) (by omega) ((q.C (p:=⟨C,m,none⟩) aa.lt).t ag) aF (fun aH aI=>av l n A c g z M i j aH ((ae.Z q).Z aI) X r al) X r al)
 have al:R=pP g (x9 (n.row 0) (AV m z M g) g):=by rw[s.g,t.g,t.h];rfl
 rw[<-al]at ak;have:=ad.uv;have q:=aD ak (s.c.Z y s.c.lt) (s.a.t (y.m s.a.size));clear Q aa ao ap ab P au y ad ae L av af ag ak al
 go_wp2_with fail
 refine q.a.st fun P r=>?_;have y:=aA (q.b.Z r q.b.lt) (q.C.t (r.m q.C.size));clear r
 go_wp2_with (refine fY rfl (.tmp 4) (.tmp 34) rfl (w+1) g 0 R E rfl rfl y.a ?_;intro Q r L)
 refine bK (qC rfl _ _ (w+1) 53 (ar g R) (0,0) _ rfl r gT rfl (jT _ _)) rfl ⟨rfl,y.B.b L y.B.size (fun j e=>by grind)⟩
end
def AF{n}(e:n<=48)(h):Rl.Ok n (pP n h):=⟨e,fun a b c=>by
 unfold Rl.bit at c;rw[RR (by omega)]at c
 grind⟩
def g3(f0 f1 f2:Rl.Rows)(k:Nat):Rl.Rows:=if k=0 then f0 else if k=1 then f1 else f2
def uF(n:Nat)(u f0 f1 f2:Rl.Rows):Rl.Rows:=wJ n u (g3 f0 f1 f2) 3
def sO(n:Nat)(f:Rl.Rows):Bool:=(qG n f).isSome
def Kk{n}{f0 f1 f2}(b:Rl.Ok n f0)(c:Rl.Ok n f1)(e:Rl.Ok n f2)(k):Rl.Ok n (g3 f0 f1 f2 k):=by
 unfold g3
 grind
section
def wB(n:Int)(f0 f1 f2:Rl.Rows)(i:Nat):Value:=if i<49 then dz n f0 i else if i<98 then dz n f1 (i-49)else dz n f2 (i-98)
def aeR(n:Int)(f0 f1 f2:Rl.Rows)(w:World):(Instr.buildSlice 223 3 #[(0,.agg (J 49 (dz n f0))),(1,.agg (J 49 (dz n f1))),(2,.agg (J 49 (dz n f2)))]).run prog w= .ok (.slice w 3 3) (w.alloc (.cells (J 147 (wB n f0 f1 f2)) 53)):=by kernel_rfl
def Xj(n)(f0 f1 f2)(x0 x1 x2)(ev)(o)(w)(f:o.op= .buildSlice 223 3 #[(0,x0),(1,x1),(2,x2)])(b:ev x0= .agg (ar n f0))(c:ev x1= .agg (ar n f1))(e:ev x2= .agg (ar n f2)):
 (execOp ev o).run prog w= .ok (.value (.slice w 3 3)) (w.alloc (.cells (J 147 (wB n f0 f1 f2)) 53)):=by
 rw[nN]at b c e;unfold execOp;simp only[f,xY,nR,pR,b,c,e,eD,(aeR n f0 f1 f2 w),eY,eZ]
def JU{ops}{o}{a}{w:World}{K}{Q}{E}(e:o.guard=none)(n)(f0 f1 f2)(x0 x1 x2)(f:o.op= .buildSlice 223 3 #[(0,x0),(1,x1),(2,x2)])
 (g:a.eval x0= .agg (ar n f0))(i:a.eval x1= .agg (ar n f1))(j:a.eval x2= .agg (ar n f2))
 (h:∀c b,aj b c 53 147 (wB n f0 f1 f2)->Below w w b->K (a.put o.dst (.slice c 3 3)) b):
 if Region.wanted o (yielded ops a.tmps)=true then Oper.wp prog o a w K Q else E:=by
 have b:Region.wanted o (yielded ops a.tmps)=true:=by simp[Region.wanted,e]
 rw[aq b];unfold Oper.wp;rw[Xj n f0 f1 f2 x0 x1 x2 a.eval o w f g i j];exact h _ _ (aj.new _ _ _ _) (ba w _)
def Pk(n sb cap)(u f0 f1 f2)(w)(c:Rl.Ok n u)(e:Rl.Ok n f0)(f:Rl.Ok n f1)(g:Rl.Ok n f2)(b:aj w sb 53 147 (wB n f0 f1 f2)):
 Calls prog 74 #[(ar n u),.slice sb 3 cap] w (Rs (ar n (uF n u f0 f1 f2)) w):=
 YN n 3 cap sb u (g3 f0 f1 f2) w c (fun k _=>Kk e f g k) (dr rfl) b.lt (fun k i j v h=>by
  have:j<49:=by grind
  rw[b.C _ (by omega)];rw[<-h];unfold wB g3
  grind)
def SB(n)(f)(w)(c:Rl.Ok n f)(b:bh w):Calls prog 73 #[(ar n f)] w (Rs (sO n f) w):=Rj n f w c.z b b.lt
section
variable{ops:Array Oper}{S:World->Prop}{o:Oper}{a:Act}
def He(c:o.guard=none)(x)(e:o.op= .load 53 x)(b:Nat)(n)(f)(g:a.eval x= .pointer b)(h:∀W,S W->aG W b n f):YieldsIf prog ops S o (ar n f) a:=
 .inl ⟨by simp[Region.wanted,c],fun W i=>by
  unfold execOp;simp only[e,g,Instr.loadAt,Instr.sureAddr,eD,eZ,eY,vW (P:=prog) _ b 53 53 (ar n f) (0,0) _ (h W i) gT rfl (jT n f)]⟩
def IR(f:o.guard=none)(x)(g:o.op= .load 53 x)(b k r)(e:XE)(A)(c n:Nat)(F)(h:k=1+49*r)(i:r<6)(j:e.n=n)(l:a.eval x= .pointer (some ⟨b,k,none⟩))(m:∀W,S W->eu W b e A c F):
 YieldsIf prog ops S o (ar n (e.row r)) a:=
 .inl ⟨by simp[Region.wanted,f],fun W p=>by
  subst h;unfold execOp;simp only[g,l,Instr.loadAt,Instr.sureAddr,eD,eZ,eY,qu W b (1+49*r) 53 ((List.range 49).map (dz e.n (e.row r))) _ ((m W p).range r i) gT rfl (by rw[pq];simp)];rw[<-j,nN];rfl⟩
end
end
def tf(n:Nat)(a:XE):Rl.Rows:=Rl.lK n (Rl.dR n (a.row 1)) (a.row 2)
def Cx(b:XE)(a:List aN):Rl.Rows:=pP a.length (zV (b.row 0) a)
def wH(m:Nat)(a:XE)(b:List aN):Rl.Rows:=if m=2 then a.row 1 else pP b.length (s0 (a.row 1) b)
def qp(m:Nat)(b:XE)(a:List aN):Nat:=
 if sO a.length (uF a.length (Cx b a) (b.row 1) (b.row 2) (tf a.length b))=false then 1
 else if xz a.length (Rl.sI a.length (b.row 5) (Rl.lK a.length (tf a.length b) (b.row 2)))=false then 2
 else if sO a.length (uF a.length (wN m (b.row 0) a) (wH m b a) (b.row 2) (tf a.length b))=false then 3 else 0
section
attribute [local irreducible] Code.wp wpList Oper.wp wpQuiet
structure wy(W:World)(w:World)(b:Nat)(X:XE)(A:Option Addr)(c:Nat)(F:List aN)(p:Nat):Prop where
 ex:eu W b X A c F
 bx:W.cell? p=some (.pointer b)
 iV:bh W
 y:Below w w W
def wy.Z{W W' w}{b p c}{X}{A}{F}(h:wy W w b X A c F p)(f:Below W W W'):wy W' w b X A c F p:=
 ⟨h.ex.Z f,(f.C (p:=p) (oU _ _ h.bx)).t h.bx,h.iV.Z f h.iV.lt,h.y.t (f.m h.y.size)⟩
def rY(w:World):Below w w w.drew:=⟨rfl,rfl,rfl,av _,fun _ _=>rfl⟩
def zc{P}{w}{ops}{o}{a}{K}{Q}{E}(c:o.guard=none)(f)(args)(v:Value)
 (g:(execOp a.eval o).run P w= .ok (.enter f args) w)(i:Calls P f args w (Rs v w))(h:∀b,Below w w b->K (a.put o.dst v) b):
 if Region.wanted o (yielded ops a.tmps)=true then Oper.wp P o a w K Q else E:=
 Fp c f args (fun u b=>u=v/\Below w w b) g (i.m fun _ _ h=>⟨_,h.1,rfl,h.2⟩) (fun u b ⟨e,j⟩=>by grind)
def aaE(m b:Nat)(l:XE)(A:Option Addr)(c:Nat)(f:List aN)(w:World)(aI:eu w b l A c f)(a2:2<=m)(a3:m<=4)(ab:f.length<=48)(P:l.n=(f.length:Int))(g:∀r,r<6->Rl.Ok f.length (l.row r))(q:bh w):
 Calls prog 27 #[.int .u8 m,.pointer b] w (Rs (.int .u8 (qp m l f)) w):=by
 have a4:=jk;have⟨aE,X⟩:=eX (w.alloc (.cells #[.pointer b] 102));have aa:Below w w aE:=by rw[X];exact ba w _
 have av:wy aE w b l A c f w.1.size:=⟨aI.Z aa,by rw[X];exact kN _ _ _ 0 _ rfl,q.Z aa q.lt,aa⟩
 have⟨p,aw⟩:=eX w.1.size;rw[<-aw]at av;have⟨t,af⟩:=eX (tf f.length l);have⟨L,ag⟩:=eX (Cx l f);have⟨ai,ah⟩:=eX (uF f.length L (l.row 1) (l.row 2) t);have⟨B1,ax⟩:=eX (sO f.length ai);have⟨M,al⟩:=eX (Rl.lK f.length t (l.row 2));have⟨N,ao⟩:=eX (Rl.sI f.length (l.row 5) M);have⟨aF,ay⟩:=eX (xz f.length N);have⟨Q,ap⟩:=eX (wN m (l.row 0) f);have⟨z,I⟩:=eX (wH m l f);have⟨ad,au⟩:=eX (uF f.length Q z (l.row 2) t);have⟨am,az⟩:=eX (sO f.length ad);have⟨R,y⟩:=eX (qp m l f);rw[<-y];have aJ:R=if B1=false then 1 else if aF=false then 2 else if am=false then 3 else 0:=by rw[y,ax,ay,az,au,ah,ao,al,ap,I,ag,af];rfl
 have C:Rl.Ok f.length t:=by rw[af];exact Rl.Dw (Rl.Fo (g 1 (dr rfl))) (g 2 (dr rfl))
 have aB:Rl.Ok f.length L:=by rw[ag];exact AF ab _
 have aK:Rl.Ok f.length ai:=by rw[ah];exact KX aB fun k _=>Kk (g 1 (dr rfl)) (g 2 (dr rfl)) C k
 have aL:Rl.Ok f.length M:=by rw[al];exact Rl.Dw C (g 2 (dr rfl))
 have aM:Rl.Ok f.length N:=by rw[ao];exact Rl.RF (g 5 (dr rfl))
 have aC:Rl.Ok f.length Q:=by rw[ap];exact AF ab _
 have aH:Rl.Ok f.length z:=by
  rw[I];unfold wH;by_cases e:m=2
  .rw[aq e];exact g 1 (dr rfl)
  rw[O e];exact AF ab _
 have aO:Rl.Ok f.length ad:=by rw[au];exact KX aC fun k _=>Kk aH (g 2 (dr rfl)) C k
 have aQ:∀W,eu W b l A c f->bh W->Calls prog 68 #[.pointer b] W (Rs (.agg (ar f.length t)) W):=fun W h q=>by rw[af];exact aaU b l A c f.length f W h P (g 1 (dr rfl)) (g 2 (dr rfl)) q
 have aR:∀W,wy W w b l A c f p->Calls prog 69 #[.int .i64 f.length,.func (.func 70) #[] #[.pointer p]] W (Rs (.agg (ar f.length L)) W):=fun W h=>by
  rw[ag];exact Lv f.length 70 #[.pointer p] (zV (l.row 0) f) W ab (gH func70 (by kernel_rfl) rfl) fun i j a5 a6 a7 n=>UI b p l A c f i j a5 (h.Z n).ex (h.Z n).bx ab a6 a7
 have aS:∀W J ae,aj W J 53 147 (wB f.length (l.row 1) (l.row 2) t)->Calls prog 74 #[.agg (ar f.length L),.slice (J:Nat) 3 ae] W (Rs (.agg (ar f.length ai)) W):=fun W J ae h=>by rw[ah];exact Pk f.length J ae L (l.row 1) (l.row 2) t W aB (g 1 (dr rfl)) (g 2 (dr rfl)) C h
 have aT:∀W,bh W->Calls prog 73 #[.agg (ar f.length ai)] W (Rs (.bool B1) W):=fun W q=>by rw[ax];exact SB f.length ai W aK q
 have aU:∀W,bh W->Calls prog 75 #[.agg (ar f.length t),.agg (ar f.length (l.row 2))] W (Rs (.tuple #[.agg (ar f.length M),.int .i64 0]) W):=fun W q=>by rw[al];exact then_ok f.length t (l.row 2) W C (g 2 (dr rfl)) q
 have aV:∀W,Calls prog 76 #[.agg (ar f.length (l.row 5)),.agg (ar f.length M)] W (Rs (.tuple #[.agg (ar f.length N),.int .i64 0]) W):=fun W=>by rw[ao];exact ad9 f.length (l.row 5) M W (g 5 (dr rfl)) aL
 have aW:∀W,Calls prog 77 #[.agg (ar f.length N)] W (Rs (.bool aF) W):=fun W=>by rw[ay];exact ZL f.length N W aM.z
 have aX:∀W,eu W b l A c f->bh W->Calls prog 79 #[.int .u8 m,.pointer b] W (Rs (.agg (ar f.length Q)) W):=fun W h q=>by rw[ap];exact abn m b l A c f W h a2 a3 ab P (g 0 (dr rfl)) q
 have aY:m≠2->∀W,eu W b l A c f->Calls prog 78 #[.pointer b,.agg (ar f.length (l.row 1))] W (Rs (.agg (ar f.length z)) W):=fun ak W h=>by
  have e:z=pP f.length (s0 (l.row 1) f):=by rw[I];unfold wH;rw[O ak]
  rw[e];exact aep b l A c f (l.row 1) W h ab
 have aZ:m=2->z=l.row 1:=fun e=>by rw[I];unfold wH;rw[aq e]
 have a0:∀W J ae,aj W J 53 147 (wB f.length z (l.row 2) t)->Calls prog 74 #[.agg (ar f.length Q),.slice (J:Nat) 3 ae] W (Rs (.agg (ar f.length ad)) W):=fun W J ae h=>by rw[au];exact Pk f.length J ae Q z (l.row 2) t W aC aH (g 2 (dr rfl)) C h
 have a1:∀W,bh W->Calls prog 73 #[.agg (ar f.length ad)] W (Rs (.bool am) W):=fun W q=>by rw[az];exact SB f.length ad W aO q
 have x:=acB aJ aQ aR aS aT aU aV aW aX aY aZ a0 a1 P;have an:=aA av X;clear aI g q aa av X af ag ah ax al ao ay ap I au az y aJ C aB aK aL aM aC aH aO aQ aR aS aT aU aV aW aX aY aZ a0 a1 P;go_enter func27,ntmps27
 go_upto_region 1 with fail
 rw[<-aw,<-an.B];clear aw;have af:=an.a.bx
 go_wp2_with fail
 refine(x.b aE an.a.ex an.a.iV).st fun ao g=>?_;clear af;have q:=aA (an.a.Z g) (aG.new ao 0 E);clear g
 go_upto_region 2 with(refine fY rfl (.tmp 5) (.tmp 13) rfl ao.1.size f.length 0 t E rfl rfl q.B ?_;intro C y I)
 have g:Below ao.1.size ao C:=fJ I;have ag:=aA (q.a.Z g) y;clear y I g;have⟨al,P⟩:=eX ao.1.size;rw[<-P]at ag⊢;clear P q;have af:=ag.a.bx;have q:=ag.a.ex.uv
 go_wp2_with fail
 refine(x.c C ag.a).st fun ap g=>?_;clear af q;have q:=aD (ag.a.Z g) (ag.B.Z g ag.B.lt) (aG.new ap 0 E);clear g
 go_upto_region 3 with(refine fY rfl (.tmp 6) (.tmp 20) rfl ap.1.size f.length 0 L E rfl rfl q.C ?_;intro P y I)
 have g:Below ap.1.size ap P:=fJ I;have aC:=aD (q.a.Z g) (q.b.Z g q.b.lt) y;clear y I g;have⟨lb,C⟩:=eX ap.1.size;rw[<-C]at aC⊢;clear C q;refine EF (S:=fun W=>Below P.drew.1.size P.drew W) (by kernel_rfl) (aP _ _) ?_;intro C;have au:wy P.drew w b l A c f p/\aG P.drew al f.length t/\aG P.drew lb f.length L:=⟨aC.a.Z (rY _),aC.b.drew,aC.C.drew⟩
 have q:=H au;clear au;generalize P.drew=aX at*
 refine dY 0 (.agg (ar f.length L)) (by simp only[u];rfl) (by kernel_rfl) (by exact fun _ _ _ h=>h) (He rfl (.tmp 6) rfl lb f.length L rfl fun W n=>q.C.Z n q.C.lt) C ?_;simp only[o];refine dY 1 (.pointer b) (by simp only[u];rfl) (by kernel_rfl) (by exact fun _ _ _ h=>h) (.inl ⟨by rfl,fun W n=>by have:=(q.a.Z n).bx;simp[execOp,go_sem,this]⟩) C ?_;simp only[o];refine dY 2 (.pointer b) (by simp only[u];rfl) (by kernel_rfl) (by exact fun _ _ _ h=>h) (.inl ⟨by rfl,fun W n=>by simp[execOp,go_sem,n]⟩) C ?_;simp only[o];refine dY 3 (.pointer (some ⟨b,50,none⟩)) (by simp only[u];rfl) (by kernel_rfl) (by exact fun _ _ _ h=>h) (.inl ⟨by rfl,fun W n=>by simp[execOp,go_sem,n]⟩) C ?_;simp only[o];refine dY 4 (.agg (ar f.length (l.row 1))) (by simp only[u];rfl) (by kernel_rfl) (by exact fun _ _ _ h=>h) (IR rfl (.tmp 24) rfl b 50 1 l A c f.length f rfl (dr rfl) x.N rfl fun W n=>q.a.ex.Z n) C ?_;simp only[o];refine dY 5 (.pointer b) (by simp only[u];rfl) (by kernel_rfl) (by exact fun _ _ _ h=>h) (.inl ⟨by rfl,fun W n=>by have:=(q.a.Z n).bx;simp[execOp,go_sem,this]⟩) C ?_;simp only[o];refine dY 6 (.pointer b) (by simp only[u];rfl) (by kernel_rfl) (by exact fun _ _ _ h=>h) (.inl ⟨by rfl,fun W n=>by simp[execOp,go_sem,n]⟩) C ?_;simp only[o];refine dY 7 (.pointer (some ⟨b,99,none⟩)) (by simp only[u];rfl) (by kernel_rfl) (by exact fun _ _ _ h=>h) (.inl ⟨by rfl,fun W n=>by simp[execOp,go_sem,n]⟩) C ?_;simp only[o];refine dY 8 (.agg (ar f.length (l.row 2))) (by simp only[u];rfl) (by kernel_rfl) (by exact fun _ _ _ h=>h) (IR rfl (.tmp 28) rfl b 99 2 l A c f.length f rfl (dr rfl) x.N rfl fun W n=>q.a.ex.Z n) C ?_;simp only[o];refine dY 9 (.agg (ar f.length t)) (by simp only[u];rfl) (by kernel_rfl) (by exact fun _ _ _ h=>h) (He rfl (.tmp 5) rfl al f.length t rfl fun W n=>q.b.Z n q.b.lt) C ?_;simp only[o];refine mS (rs:=[10]) (by kernel_rfl) (by simp) (lv (by simp only[u];rfl) (fun aH av=>?_) mE);refine JU rfl f.length (l.row 1) (l.row 2) t (.tmp 25) (.tmp 29) (.tmp 30) rfl rfl rfl rfl ?_;intro J aU X g;have ay:=H X;refine av.y _ _ (C.t (g.m C.size)) fun ax=>?_;clear av aH g X;simp only[o];refine mS (rs:=[11]) (by kernel_rfl) (by simp) (lv (by simp only[u];rfl) (fun aI aw=>?_) mE);refine zc rfl 74 #[.agg (ar f.length L),.slice (J:Nat) 3 3] _ (by simp[execOp,go_sem]) (x.d aU J 3 ay.y) ?_;intro aV g;refine aw.y _ _ (ax.t (g.m ax.size)) fun P=>?_;clear aw aI g;simp only[o];refine mS (rs:=[12]) (by kernel_rfl) (by simp) (lv (by simp only[u];rfl) (fun az aa=>?_) mE);refine zc rfl 73 #[.agg (ar f.length ai)] _ (by simp[execOp,go_sem]) (x.e aV (q.a.Z P).iV) ?_;intro aY g;refine aa.y _ _ (P.t (g.m P.size)) fun ah=>?_;clear aa az g;simp only[o];refine dY 13 (.bool (!B1)) (by simp only[u];rfl) (by kernel_rfl) (by exact fun _ _ _ h=>h) (.inl ⟨by rfl,fun W n=>by simp[execOp,go_sem,n]⟩) ah ?_;simp only[o];refine Fi (by kernel_rfl) ?_ _;have aa:=aA (q.a.Z ah) (q.b.Z ah q.b.lt);clear C ax P ah ay q;cases B1 with
 |false=>
  go_wp2;go_ret;exact⟨by rw[x.a];rfl,aa.a.y⟩
 |true=>
  go_wp2;refine Bl.sW 9 _ _ (.cells (ar 0 E) 53) (.cells (ar f.length M) 53) (by kernel_rfl) (by kernel_rfl) rfl rfl (fun a W=>Dx _ _ _ _ _ _) rfl rfl ?_;simp only[st1];refine KF rfl (.tmp 5) rfl al f.length t rfl aa.B ?_;simp only[o];refine Bl.dK (v:=(.pointer b)) rfl (fun W n=>by have:=(aa.a.Z n).bx;simp[execOp,go_sem,this]) ?_;simp only[o]
  iterate 2 (refine Bl.dK rfl (fun W n=>by simp[execOp,go_sem];rfl) ?_;simp only[o])
  refine Ao rfl (.tmp 39) rfl b 99 2 l A c f.length f rfl (dr rfl) x.N rfl aa.a.ex ?_;simp only[o];refine Bl.mZ 75 #[.agg (ar f.length t),.agg (ar f.length (l.row 2))] rfl (fun W=>by simp[execOp,go_sem]) (fun W n=>x.f W (aa.a.Z n).iV) ?_;simp only[o]
  iterate 3 (refine Bl.dK rfl (fun W n=>by simp[execOp,go_sem];rfl) ?_;simp only[o])
  refine Bl.kr ?_;intro aJ;refine⟨Dg (.tmp 7) (.tmp 42) rfl aJ f.length 0 M E rfl rfl,?_⟩;intro aW g C y;have ah:=aD (aa.a.Z g) (aa.B.Z g aa.B.lt) (show aG aW aJ f.length M from y);clear g C y;simp only[o];go_wp2;refine Bl.sW 9 _ _ (.cells (ar 0 E) 53) (.cells (ar f.length N) 53) (by kernel_rfl) (by kernel_rfl) rfl rfl (fun a W=>Dx _ _ _ _ _ _) rfl rfl ?_;simp only[st1];refine Bl.dK (v:=(.pointer b)) rfl (fun W n=>by have:=(ah.a.Z n).bx;simp[execOp,go_sem,this]) ?_;simp only[o]
  iterate 2 (refine Bl.dK rfl (fun W n=>by simp[execOp,go_sem];rfl) ?_;simp only[o])
  refine Ao rfl (.tmp 47) rfl b 246 5 l A c f.length f rfl (dr rfl) x.N rfl ah.a.ex ?_;simp only[o];refine KF rfl (.tmp 7) rfl aJ f.length M rfl ah.C ?_;simp only[o];refine Bl.mZ 76 #[.agg (ar f.length (l.row 5)),.agg (ar f.length M)] rfl (fun W=>by simp[execOp,go_sem]) (fun W n=>x.g W) ?_;simp only[o]
  iterate 3 (refine Bl.dK rfl (fun W n=>by simp[execOp,go_sem];rfl) ?_;simp only[o])
  refine Bl.kr ?_;intro aK;refine⟨Dg (.tmp 9) (.tmp 51) rfl aK f.length 0 N E rfl rfl,?_⟩;intro aR g C y;have ax:=aD (ah.a.Z g) (ah.b.Z g ah.b.lt) (show aG aR aK f.length N from y);clear g C y;simp only[o]
  go_wp2_with (refine kk rfl (.tmp 9) rfl aK f.length N rfl ax.C ?_)
  refine(x.h aR).st fun ay g=>?_;have P:=aA (ax.a.Z g) (ax.b.Z g ax.b.lt);clear g;cases aF with
  |false=>
   go_wp2;go_ret;exact⟨by rw[x.a];rfl,P.a.y⟩
  |true=>
   have aL:¬(m:Int)=1:=by omega
   have aM:((m:Int)==1)=false:=by simp;omega
   have af:=P.a.bx;have C:=aG.new ay 0 E;have aS:=H C;clear C
   go_upto_if 63 with(first|(refine iI rfl 53 (.tmp 60) rfl b 50 rfl ((List.range 49).map (dz l.n (l.row 1))) _ (P.a.ex.range 1 (dr rfl)) gT rfl (by rw[pq];simp) ?_;rw[show((List.range 49).map (dz l.n (l.row 1))).toArray=ar f.length (l.row 1)from(by rw[<-x.N];exact(nN _ _).s)])|(refine fY rfl (.tmp 11) (.tmp 61) rfl ay.1.size f.length 0 (l.row 1) E rfl rfl aS.y ?_;intro aT y I))
   have g:Below ay.1.size ay aT:=fJ I;have C:=aD (P.a.Z g) (P.B.Z g P.B.lt) y;have az:=aD g P.a P.B;have⟨aB,aO⟩:=eX ay.1.size;rw[<-aO]at C⊢;have aQ:=H aO;clear y I g af aO aS P ax ah;have af:=C.a.bx
   go_cut [64] (fun s P=>wy P w b l A c f p/\aG P al f.length t/\aG P aB f.length z)
   case first=>
    by_cases ak:m=2
    .have e:=x.k ak;subst ak;have aO:=H e;clear e aL aM;go_wp2
     go_meet
     exact⟨C.a,C.b,by rw[aO.y];exact C.C⟩
    have:¬(m:Int)=2:=by omega
    have:((m:Int)==2)=false:=by simp;omega
    have P:=x.j ak aT C.a.ex;clear ak aL aM
    go_wp2_with (refine kk rfl (.tmp 11) rfl aB f.length (l.row 1) rfl C.C ?_)
    refine P.st fun aZ g=>?_;have aO:=aD (C.a.Z g) (C.b.Z g C.b.lt) (C.C.Z g C.C.lt);have aS:=H (az.a.t (g.m (by have:=aQ.y;have:=C.C.lt;omega)));clear g P
    go_wp2_with (refine fY rfl (.tmp 11) (.tmp 66) rfl aB f.length f.length z (l.row 1) rfl rfl aO.C ?_;intro P y I)
    have g:=Below.b aS.y I aS.y.size (fun j e=>by cases e;have:=aQ.y;omega)
    go_meet
    exact⟨az.b.Z (g),az.C.Z (g) az.C.lt,y⟩
   obtain⟨P,ah,ak⟩:=hcut;clear aL aM af;go_wp2;refine EF (S:=fun W=>Below wc.drew.1.size wc.drew W) (by kernel_rfl) (aP _ _) ?_;intro I;have au:wy wc.drew w b l A c f p/\aG wc.drew al f.length t/\aG wc.drew aB f.length z:=⟨P.Z (rY _),ah.drew,ak.drew⟩
   have q:=H au;clear au P ah ak az C aQ;generalize wc.drew=az at*
   refine dY 0 (.int .u8 m) (by simp only[u];rfl) (by kernel_rfl) (by exact fun _ _ _ h=>h) (.inl ⟨by rfl,fun W n=>by simp[execOp,go_sem,n]⟩) I ?_;simp only[o];refine dY 1 (.pointer b) (by simp only[u];rfl) (by kernel_rfl) (by exact fun _ _ _ h=>h) (.inl ⟨by rfl,fun W n=>by have:=(q.a.Z n).bx;simp[execOp,go_sem,this]⟩) I ?_;simp only[o];refine dY 3 (.agg (ar f.length z)) (by simp only[u];rfl) (by kernel_rfl) (by exact fun _ _ _ h=>h) (He rfl (.tmp 11) rfl aB f.length z rfl fun W n=>q.C.Z n q.C.lt) I ?_;simp only[o];refine dY 4 (.pointer b) (by simp only[u];rfl) (by kernel_rfl) (by exact fun _ _ _ h=>h) (.inl ⟨by rfl,fun W n=>by have:=(q.a.Z n).bx;simp[execOp,go_sem,this]⟩) I ?_;simp only[o];refine dY 5 (.pointer b) (by simp only[u];rfl) (by kernel_rfl) (by exact fun _ _ _ h=>h) (.inl ⟨by rfl,fun W n=>by simp[execOp,go_sem,n]⟩) I ?_;simp only[o];refine dY 6 (.pointer (some ⟨b,99,none⟩)) (by simp only[u];rfl) (by kernel_rfl) (by exact fun _ _ _ h=>h) (.inl ⟨by rfl,fun W n=>by simp[execOp,go_sem,n]⟩) I ?_;simp only[o];refine dY 7 (.agg (ar f.length (l.row 2))) (by simp only[u];rfl) (by kernel_rfl) (by exact fun _ _ _ h=>h) (IR rfl (.tmp 73) rfl b 99 2 l A c f.length f rfl (dr rfl) x.N rfl fun W n=>q.a.ex.Z n) I ?_;simp only[o];refine dY 8 (.agg (ar f.length t)) (by simp only[u];rfl) (by kernel_rfl) (by exact fun _ _ _ h=>h) (He rfl (.tmp 5) rfl al f.length t rfl fun W n=>q.b.Z n q.b.lt) I ?_;simp only[o];clear a4;refine(fun(T:∀C P,Below az az P->aj P C 53 147 (wB f.length z (l.row 2) t)->(?G:Nat->World->Prop) C P)=>?_) ?_;rotate_left
   .refine mS (rs:=[2,9]) (by kernel_rfl) (by simp) (lv (by simp only[u];rfl) (fun aL au=>?_) (lv (by simp only[u];rfl) (fun aM ax=>?_) mE))
    .refine zc rfl 79 #[.int .u8 m,.pointer b] (.agg (ar f.length Q)) (by simp[execOp,go_sem]) (x.i az (q.a.Z I).ex (q.a.Z I).iV) ?_;intro aT g
     try have aQ:=H (HC10.y.Z g HC10.y.lt)
     refine au.y _ _ (I.t (g.m I.size)) fun af=>?_;clear au aL g;simp only[o];refine mS (rs:=[9]) (by kernel_rfl) (by simp) (lv (by simp only[u];rfl) (fun aM ax=>?_) mE);refine JU rfl f.length z (l.row 2) t (.tmp 70) (.tmp 74) (.tmp 75) rfl rfl rfl rfl ?_;intro C P X g;have ah:=H X;clear X;refine ax.y _ _ (af.t (g.m af.size)) fun ak=>?_;clear ax aM g;simp only[o];exact T _ _ ak ah.y
    refine JU rfl f.length z (l.row 2) t (.tmp 70) (.tmp 74) (.tmp 75) rfl rfl rfl rfl ?_;intro C aT X g;have aQ:=H X;clear X;refine ax.y _ _ (I.t (g.m I.size)) fun af=>?_;clear ax aM g;simp only[o];refine mS (rs:=[2]) (by kernel_rfl) (by simp) (lv (by simp only[u];rfl) (fun aL au=>?_) mE);refine zc rfl 79 #[.int .u8 m,.pointer b] (.agg (ar f.length Q)) (by simp[execOp,go_sem]) (x.i aT (q.a.Z af).ex (q.a.Z af).iV) ?_;intro P g
    try have ah:=H (aQ.y.Z g aQ.y.lt)
    refine au.y _ _ (af.t (g.m af.size)) fun ak=>?_;clear au aL g;simp only[o];exact T _ _ ak ah.y
   intro C P ak ah;have ah:=H ah;refine mS (rs:=[10]) (by kernel_rfl) (by simp) (lv (by simp only[u];rfl) (fun aH av=>?_) mE);refine zc rfl 74 #[.agg (ar f.length Q),.slice (C:Nat) 3 3] (.agg (ar f.length ad)) (by simp[execOp,go_sem]) (x.l P C 3 ah.y) ?_;intro ax g;refine av.y _ _ (ak.t (g.m ak.size)) fun X=>?_;clear av aH g;simp only[o];refine mS (rs:=[11]) (by kernel_rfl) (by simp) (lv (by simp only[u];rfl) (fun aI aw=>?_) mE);refine zc rfl 73 #[.agg (ar f.length ad)] (.bool am) (by simp[execOp,go_sem]) (x.m ax (q.a.Z X).iV) ?_;intro av g;refine aw.y _ _ (X.t (g.m X.size)) fun au=>?_;clear aw aI g;simp only[o];refine dY 12 (.bool (!am)) (by simp only[u];rfl) (by kernel_rfl) (by exact fun _ _ _ h=>h) (.inl ⟨by rfl,fun W n=>by simp[execOp,go_sem,n]⟩) au ?_;simp only[o];refine Fi (by kernel_rfl) ?_ _;have g:=H (q.a.Z au).y;cases am with
   |false=>
    go_wp2;go_ret;exact⟨by rw[x.a];rfl,g.y⟩
   |true=>
    go_wp2;go_ret;exact⟨by rw[x.a];rfl,g.y⟩
end
def Yc(m:Nat)(w)(b:2<=m)(c:m<=4):Calls prog 25 #[.int .u8 m] w fun e a=>e=true/\a=w:=by
 have:(m:Int)<=6:=by omega
 go_enter func25,ntmps25;go_wp2;go_ret;exact⟨rfl,rfl⟩
def YJ(m:Nat)(c:gO)(A:Option Addr)(b N:Nat)(x:Nat->List Nat)(w:World)(y:2<=m)(z:m<=4)(g:Cy N c x)(p:eG w A c.F)(q:bh w):
 Calls prog 14 #[.int .u8 m,(J 333 (xG c.x (.slice A ↑c.F b)))] w (Rs (qp m c.x c.F==0) w):=by
 have⟨G,i⟩:=eX (J 333 (xG c.x (.slice A c.F b)));have⟨f,o⟩:=eX (w.alloc (.cells G 60));have j:Below w w f:=by rw[o];exact ba w _
 have C:aj f w 60 333 (xG c.x (.slice A c.F b)):=by rw[o,i];exact aj.new _ _ _ _
 have r:=eu.of C (p.Z j (av _));have l:=q.Z j q.lt;have:¬G=#[]:=by intro h;have:=cg Array.size h;rw[i,dF]at this;simp at this
 have E:=Yc m f y z;have s:=fun W(n:Below f f W)=>Ym c A b N x W g ((p.Z j (av _)).Z n (av _)) (l.Z n l.lt);rw[<-i]at s⊢;have⟨R,t⟩:=eX (qp m c.x c.F);have u:=fun W(n:Below f f W)=>aaE m w c.x A b c.F W (r.Z n) y z g.F.len g.num g.rows (l.Z n l.lt);rw[<-t]at u;rw[<-t];have a:=dH j E s u r i o;clear j C r q l E s u g p i o t;have j:((R:Int)==0)=(R==0):=by
  rw[kG,fg,fg];omega
 have⟨v,g⟩:=eX (R==0);rw[<-g]at j⊢;clear g;go_enter func14,ntmps14
 go_upto_region 1 with fail
 rw[<-a.G]
 go_wp2_with fail
 refine a.b.m ?_;rintro e l ⟨rfl,rfl⟩
 go_wp2_with ((with_reducible refine Wn ?_);fail)
 refine wp_load_mid 60 (.tmp 3) rfl w 0 rfl ((List.range 333).map (xG c.x (.slice A c.F b))) _ a.e.whole vM rfl (by rw[pV];simp) ?_;rw[show((List.range 333).map (xG c.x (.slice A c.F b))).toArray=G from a.f.s]
 go_wp2_with fail
 refine(a.c l (aP _ _)).st fun o i=>?_;have g:=H i;clear i
 go_wp2_with fail
 refine(a.d o g.y).st fun q i=>?_;have p:=H (a.a.t ((g.y.t (i.m g.y.size)).m a.a.size));clear i;go_wp2;go_ret;exact⟨rfl,p.y⟩
def eB:List Int->List Int->Int
 |a::s,b::t=>if iA a b=0 then eB s t else iA a b
 |_,_=>0
def af9(x y)(w):Calls prog 135 #[.int .u8 x,.int .u8 y] w fun e c=>e=(Value.int .i64 (iA x y))/\c=w:=by
 have⟨R,b⟩:=eX (iA x y);rw[<-b];have a:=H b;go_enter func135,ntmps135
 go_wp2_with fail
 refine(JJ _ _).m ?_;rintro e f ⟨rfl,rfl⟩
 go_wp2_with fail
 refine(JJ _ _).m ?_;rintro e f ⟨rfl,rfl⟩;by_cases h:x<y
 .go_wp2;go_ret;exact⟨by rw[a.y];unfold iA;rw[aq h];rfl,rfl⟩
 by_cases g:y<x
 .go_wp2;go_ret;exact⟨by rw[a.y];unfold iA;rw[O (by omega),aq g];rfl,rfl⟩
 go_wp2;go_ret;exact⟨by rw[a.y];unfold iA;rw[O (by omega),O (by omega)];rfl,rfl⟩
def Rm(s):eB [] s=0:=by unfold eB;rfl
def drop_cons{l:List Int}{k}{x:Int}(h:l[k]? =x):l.drop k=x::l.drop (k+1):=by
 obtain⟨a,rfl⟩:=bL.1 h;simp_all
def aaq(b p q r n c t:Nat)(a f:List Int)(w)(z:a=n)(A:f=n)(C:n<=1000)(h:∀i v,a[i]? =some v->w.cell? ⟨b,p+i,none⟩=some (.int .u8 v))(l:∀i v,f[i]? =some v->w.cell? ⟨q,r+i,none⟩=some (.int .u8 v)):
 Calls prog 83 #[.slice (some ⟨b,p,none⟩) n c,.slice (some ⟨q,r,none⟩) n t] w fun e u=>e=(Value.int .i64 (eB a f))/\u=w:=by
 have⟨R,g⟩:=eX (eB a f);rw[<-g];have j:=aD h l g;clear h l g;go_enter func83,ntmps83;go_wp2
 go_loopw [11] (fun i wr=>∃k,k<=n/\i= .int .i64 k/\wr=w/\eB (a.drop k) (f.drop k)=R) (fun i _=>n-(intOf i).toNat)
 case atStart=>exact⟨0,aQ _,rfl,rfl,j.C.s⟩
 obtain⟨k,E,rfl,rfl,g⟩:=hrel;by_cases k<n
 .have F:(k:Int)<n:=by omega
  have:¬(n:Int)<=k:=by omega
  obtain⟨x,l⟩:∃x,a[k]? =some x:=⟨_,aI (by omega)⟩
  obtain⟨y,m⟩:∃y,f[k]? =some y:=⟨_,aI (by omega)⟩
  have:=j.a k x l;have:=j.b k y m;rw[drop_cons l,drop_cons m,eB]at g;have o:=af9 x y wr;have⟨v,s⟩:=eX (iA x y);rw[<-s]at o g;have h:=H g;clear g l m s
  go_wp2_with fail
  refine o.m ?_;rintro e m ⟨rfl,rfl⟩;clear o;by_cases l:v=0
  .subst l;go_wp2;exact⟨⟨k+1,by omega,by go_num,by have:=h.y;simpa using this⟩,by simp[intOf];omega⟩
  have:(v !=0)=true:=by simp[l]
  go_wp2;go_ret;exact⟨by have:=h.y;rw[O l]at this;rw[this];rfl,rfl⟩
 obtain rfl:k=n:=by omega
 have:¬(k:Int)<k:=by omega
 have h:=H g;clear g;go_wp2;go_ret;exact⟨by have:=h.y;rw[Mw (by omega),Rm]at this;rw[<-this];rfl,rfl⟩
def SS:∀{s t:List Int}(c f:List Int),s.length=t->eB (s++c) (t++f)=if eB s t=0 then eB c f else eB s t
 |[],[],c,f,_=>by rw[Rm];rfl
 |a::s,b::t,c,f,h=>by
  by_cases e:iA a b=0
  .have g:eB (a::s) (b::t)=eB s t:=aq e;rw[g,<-(SS (s:=s) (t:=t) c f (by grind))];exact aq e
  have g:eB (a::s) (b::t)=iA a b:=O e;rw[g,O e];exact O e
 |[],_::_,_,_,h=>by simp at h
 |_::_,[],_,_,h=>by simp at h
def ZU(k){s t:List Int}(h:s.length=t):eB s t=if eB (s.take k) (t.take k)=0 then eB (s.drop k) (t.drop k)else eB (s.take k) (t.take k):=by
 rw[<-SS _ _ (by simp[h]),yu,yu]
abbrev dg:Type:={l:List UInt8//l.length=38}
instance:Inhabited dg:=⟨⟨List.replicate 38 0,rfl⟩⟩
def kH(x:dg):List Int:=x.1.map Y
def bQ(x:dg):List Value:=(kH x).map fun z=> .int .u8 z
def jB(x y:dg):Int:=eB (kH x) (kH y)
def pQ(x):(kH x).length=38:=by unfold kH;rw[cV];exact x.2
def lW(x):(bQ x).length=38:=by unfold bQ;rw[cV];exact pQ x
def SY{w:World}{b}{x}(h:w.1[b]? =some (.cells (bQ x).toArray 58 (0,0)))(o n)(i)(v)(a:(((kH x).drop o).take n)[i]? =some v):w.cell? ⟨b,o+i,none⟩=some (.int .u8 v):=by
 rw[lN w b (o+i) _ _ _ h];rw[Iy]at a;split at a
 .rw[QI]at a;unfold bQ;simp[a]
 grind
def acN(x y)(w):
 Calls prog 30 #[(bQ x).toArray,.agg (bQ y).toArray] w fun e o=>e= .returned (.int .i64 (jB x y))/\∃q C,o=Go.Sort.grow (w.drewN q) C:=by
 have E:=pQ x;have F:=pQ y;have⟨g,c⟩:=eX (bQ x).toArray;have⟨j,p⟩:=eX (bQ y).toArray;have⟨a,m⟩:=eX ((w.alloc (.cells g 58)).alloc (.cells j 58));have:¬g=#[]:=by intro h;have:=cg Array.size h;rw[c]at this;simp[lW]at this
 have:¬j=#[]:=by intro h;have:=cg Array.size h;rw[p]at this;simp[lW]at this
 have t:a.1[w.1.size]? =some (.cells (bQ x).toArray 58 (0,0)):=by
  rw[m,c];exact(fF _ _ _ (by simp)).t (jZ w _)
 have u:a.1[w.1.size+1]? =some (.cells (bQ y).toArray 58 (0,0)):=by
  have:=jZ (w.alloc (.cells g 58)) (.cells j 58);simp_all
 have z:∀k,a.drewN k=Go.Sort.grow (w.drewN k) #[.cells g 58,.cells j 58]:=by
  intro k;rw[m,show((w.alloc (.cells g 58)).alloc (.cells j 58)).drewN k=((w.drewN k).alloc (.cells g 58)).alloc (.cells j 58)from rfl,RY,RY,Go.Sort.grow_grow];rfl
 have A:∀(k b n:Nat),n<=38->b+n<=38->Calls prog 83 #[.slice (some ⟨w,b,none⟩) n n,.slice (some ⟨w+1,b,none⟩) n n] (a.drewN k) fun e o=>e=(Value.int .i64 (eB (((kH x).drop b).take n) (((kH y).drop b).take n)))/\o=a.drewN k:=fun k b n I J=>
  aaq w b (w+1) b n n n _ _ (a.drewN k) (by grind) (by grind) (by omega) (fun i v f=>SY (w:=a.drewN k) t b n i v f) (fun i v f=>SY (w:=a.drewN k) u b n i v f)
 have⟨R,r⟩:=eX (jB x y);rw[<-r,<-c,<-p];have l:=aY A z r m;clear A z r m t u c p;go_enter func30,ntmps30
 go_upto_region 1 with fail
 rw[<-l.D];go_wp2
 go_loopw [7] (fun i wr=>∃k:Nat,k<=4/\i= .int .i64 k/\wr=a.drewN k/\eB ((kH x).drop (8*k)) ((kH y).drop (8*k))=R) (fun i _=>4-(intOf i).toNat)
 case atStart=>exact⟨0,aQ _,rfl,rfl,l.c.s⟩
 obtain⟨k,z,rfl,rfl,m⟩:=hrel;by_cases k<4
 .have A:(k:Int)<4:=by omega
  have c:=l.a (k+1) (k*8) 8 (dr rfl) (by omega);have⟨v,f⟩:=eX (eB (((kH x).drop (k*8)).take 8) (((kH y).drop (k*8)).take 8));rw[<-f]at c;have p:(if v=0 then eB ((kH x).drop (8*(k+1))) ((kH y).drop (8*(k+1)))else v)=R:=by
   rw[<-m,ZU 8 (s:=(kH x).drop (8*k)) (by grind),Lt,Lt,show 8*k+8=8*(k+1) by omega,show 8*k=k*8 by omega,<-f]
  have t:=H p;clear m p f;have⟨wr,f⟩:=eX (a.drewN k);rw[<-f];have p:=H f;clear f;go_wp2;go_still_tail 8,(by kernel_rfl)
  change wpList _ _ _ _ _ wr.drew;rw[show wr.drew=a.drewN (k+1)from by rw[p.y];rfl]
  go_wp2_with fail
  refine c.m ?_;rintro e u ⟨rfl,rfl⟩;clear c;by_cases r:v=0
  .subst r;go_wp2;exact⟨⟨k+1,by omega,by go_num,rfl,by have:=t.y;simpa using this⟩,by simp[intOf];omega⟩
  have:(v !=0)=true:=by simp[r]
  go_wp2;go_ret;exact⟨by have:=t.y;rw[O r]at this;rw[this];rfl,_,_,l.b _⟩
 obtain rfl:k=4:=by omega
 have:¬((4:Nat):Int)<4:=by omega
 have c:=l.a (4+1) 32 6 (dr rfl) (by omega);rw[sl (by simp[E]),sl (by simp[F])]at c;rw[show 8*4=32 from rfl]at m;rw[m]at c;clear m;have⟨wr,f⟩:=eX (a.drewN 4);rw[<-f];have p:=H f;clear f;go_wp2;go_still_tail 4,(by kernel_rfl)
 change wpList _ _ _ _ _ wr.drew;rw[show wr.drew=a.drewN (4+1)from by rw[p.y];rfl]
 go_wp2_with fail
 refine c.m ?_;rintro e u ⟨rfl,rfl⟩;clear c;go_wp2;go_ret;exact⟨rfl,_,_,l.b _⟩
section
open Go.Sort
def uG{a b}(s t)(h:a<b):eB (a::s) (b::t)= -1:=by
 have:iA a b= -1:=aq h;have:eB (a::s) (b::t)=iA a b:=O (by omega);omega
def Au{a b}(s t)(h:b<a):eB (a::s) (b::t)=1:=by
 have:iA a b=1:=by unfold iA;rw[O (by omega),aq h]
 have:eB (a::s) (b::t)=iA a b:=O (by omega);omega
def zy(a)(s t):eB (a::s) (a::t)=eB s t:=by
 have e:iA a a=0:=by unfold iA;rw[O (by omega),O (by omega)]
 exact aq e
def QN:∀s,eB s s=0
 |[]=>rfl
 |a::s=>by rw[zy];exact QN s
def PE:∀{s t u:List Int},s.length=t->t.length=u->eB s t<0->eB t u<0->eB s u<0
 |[],_,_,_,_,f,_=>by grind
 |_::_,[],_,h,_,_,_=>by simp at h
 |_::_,_::_,[],_,h,_,_=>by simp at h
 |a::s,b::t,c::u,e1,e2,f,g=>by
  obtain h|h|h:=ye a b
  .obtain e|e|e:=ye b c
   .rw[uG _ _ (by omega)];decide
   .rw[uG _ _ (by omega)];decide
   rw[Au _ _ e]at g;omega
  .subst h;rw[zy]at f;obtain e|e|e:=ye a c
   .rw[uG _ _ e];decide
   .subst e;rw[zy]at g⊢;exact PE (by grind) (by grind) f g
   rw[Au _ _ e]at g;omega
  rw[Au _ _ h]at f;omega
def Pm:∀{s t u:List Int},s.length=t->t.length=u->¬eB s t<0->¬eB t u<0->¬eB s u<0
 |[],_,_,_,_,_,_=>by grind
 |_::_,[],_,h,_,_,_=>by simp at h
 |_::_,_::_,[],_,h,_,_=>by simp at h
 |a::s,b::t,c::u,e1,e2,g,f=>by
  obtain h|h|h:=ye a b
  .rw[uG _ _ h]at g;omega
  .subst h;rw[zy]at g;obtain e|e|e:=ye a c
   .rw[uG _ _ e]at f;omega
   .subst e;rw[zy]at f⊢;exact Pm (by grind) (by grind) g f
   rw[Au _ _ e];decide
  obtain e|e|e:=ye b c
  .rw[uG _ _ e]at f;omega
  .rw[Au _ _ (by omega)];decide
  rw[Au _ _ (by omega)];decide
def Ns:∀{s t:List Int},s.length=t->¬eB s t<0->¬eB t s<0->s=t
 |[],[],_,_,_=>rfl
 |_::_,[],h,_,_=>by simp at h
 |[],_::_,h,_,_=>by simp at h
 |a::s,b::t,e,c,f=>by
  obtain h|h|h:=ye a b
  .rw[uG _ _ h]at c;omega
  .subst h;rw[zy]at c f;rw[Ns (by grind) c f]
  rw[uG _ _ h]at f;omega
def aaN{x y}(h:kH x=kH y):x=y:=by
 apply Je;exact(Ss (fun a b h=>lQ.1 h)).1 h
def tZ:SWO (ltOf jB):=by
 refine⟨fun x=>?_,fun x y z a b=>?_,fun x y z a b=>?_⟩
 .unfold ltOf jB;rw[QN];rfl
 .exact fB (PE (by rw[pQ,pQ]) (by rw[pQ,pQ]) (mf a) (mf b))
 exact gX (Pm (by rw[pQ,pQ]) (by rw[pQ,pQ]) (yG a) (yG b))
def Uy(x y)(a:ltOf jB x y=false)(b:ltOf jB y x=false):x=y:=by
 exact aaN (Ns (by rw[pQ,pQ]) (yG a) (yG b))
def tA(l:List dg):List dg:=l.mergeSort fun x y=>!(ltOf jB) y x
def afZ(l)(x):x∈tA l↔x∈l:=Md
def RJ(l):(tA l)=l.length:=List.length_mergeSort l
def agk(l):(tA l).Pairwise fun x y=>ltOf jB y x=false:=by
 have:=Sb (le:=fun x y:dg=>!(ltOf jB) y x) (fun a b c e f=>by
  simp only[x8]at*
  exact tZ.ntrans c b a f e) (fun a b=>by
  simp only[jW,x8];by_cases h:ltOf jB b a=true
  .exact .inr (by
    cases e:ltOf jB a b
    .rfl
    .have:=tZ.2 _ _ _ h e;rw[tZ.1]at this;cases this)
  .grind) l
 exact this.imp fun h=>by grind
end
def jo:List dg->List dg
 |[]=>[]
 |[x]=>[x]
 |x::y::l=>if x=y then jo (y::l)else x::jo (y::l)
def DE:∀(l:List dg)(x),jo (l++[x])=if l.getLast?=some x then jo l else jo l++[x]
 |[],x=>by simp[jo]
 |[y],x=>by
  simp only[iJ,gG,jo,Qk,Hu]
  grind
 |y::z::l,x=>by
  have a:=DE (z::l) x;simp only[iJ,jo]at a⊢;rw[List.getLast?_cons_cons,a];by_cases h:y=z
  .rw[aq h,aq h]
  rw[O h,O h];split<;>rfl
def PP:∀l,(jo l)<=l.length
 |[]=>av _
 |[x]=>av _
 |x::y::l=>by
  have:=PP (y::l);unfold jo
  grind
def fk(x:dg)(i:Nat):Value:= .int .u8 (Y (x.1.getD i 0))
def fw(l:List dg):List Value:=l.flatMap bQ
def QO(l):(fw l)=l.length*38:=by
 unfold fw
 induction l with
 |nil=>rfl
 |cons x t a=>simp only[uz,dc,lW,gL,a];omega
def DR(x):bQ x=(List.range 38).map (fk x):=by
 apply C7;intro i;unfold bQ kH;by_cases h:i<38
 .have a:i<x.1:=by omega
  simp[h,a,fk]
 grind
def vQ(x):(bQ x).toArray=J 38 (fk x):=by rw[DR];rfl
def Lp:∀{l:List dg}{i}{x:dg}{j},l[i]? =x->j<38->(fw l)[i*38+j]? =(fk x j)
 |[],i,x,j,h,_=>by simp at h
 |y::t,0,x,j,h,a=>by
  obtain rfl:=aR h;show(bQ y++fw t)[0*38+j]? =_;rw[lE (by rw[lW];omega),DR];simp[a]
 |y::t,i+1,x,j,h,a=>by
  show(bQ y++fw t)[(i+1)*38+j]? =_;rw[kB (by rw[lW];omega),lW,show(i+1)*38+j-38=i*38+j by omega];exact Lp (by simpa using h) a
structure FM(W:World)(g cap:Nat)(M:List dg):Prop where
 ex:∃G,aj W g 58 (cap*38) G/\∀(i:Nat)(x:dg),M[i]? =some x->∀j,j<38->G (i*38+j)=fk x j
 le:M.length<=cap
def FM.lt{W}{g cap}{M}(h:FM W g cap M):g<W:=by have⟨G,f,_⟩:=h.ex;exact f.lt
def FM.Z{W W'}{n g cap}{M}(h:FM W g cap M)(f:Below n W W')(i:g<n):FM W' g cap M:=by
 have⟨G,o,r⟩:=h.ex;exact⟨⟨G,o.Z f i,r⟩,h.le⟩
def FM.range{W}{g cap}{M}(h:FM W g cap M){i}{x:dg}(hi:M[i]? =x):W.rangeAt g (i*38) (bQ x):=by
 have⟨G,r,u⟩:=h.ex;intro j v f;have o:j<38:=by have:=(bL.1 f).1;rwa[lW]at this
 have:=(bL.1 hi).1;have:=h.le;rw[r.C _ (by omega),u i x hi j o];rw[DR]at f;simp[o]at f;rw[f]
def FM.owns{W}{base g cap}{M}(h:FM W g cap M)(w:base<=g)(y:cap<=maxLen)(k:Nat)(L:List dg)(f:∀(i:Nat)(x:dg),L[i]? =x->M[i]? =x)(o:L=k):W.ownsRow base 58 38 (.slice g k cap) k (fw L):=by
 subst o;have⟨G,A,C⟩:=h.ex;have E:L.length<=M:=by
  obtain o|o:=qN M L
  .have:=f M _ (aI o)
   grind
  omega
 refine⟨QO L,.inr ⟨g,cap,J (cap*38) G,rfl,w,A,aO E h.le,y,dF _ _,?_⟩⟩;rw[sg];have:=h.le;apply C7;intro t;by_cases F:t<L*38
 .rw[xE F];have r:=aI (show t/38<L by omega);have:=Lp (j:=t%38) r (by omega);rw[show t/38*38+t%38=t by omega]at this;rw[this];have u:=C _ _ (f _ _ r) (t%38) (by omega);rw[show t/38*38+t%38=t by omega]at u;rw[<-u];have:t<cap*38:=by omega
  simp[this]
 rw[List.getElem?_take_eq_none (by omega),od (by rw[QO];omega)]
def FM.TG{W}{base}{v}{M}(h:W.ownsRow base 58 38 v M (fw M))(H:M≠[]):∃g f,v= .slice (g:Nat) M.length f/\base<=g/\f<=maxLen/\FM W g f M:=by
 obtain⟨_,I⟩|⟨g,f,o,r,u,w,y,A,L,C⟩:=h.2
 .grind
 refine⟨g,f,r,u,A,⟨fun i=>o.getD i undef,?_,fun i x hi j E=>?_⟩,y⟩
 .show W.1[g]? =_;rw[w];congr 2;apply Array.ext
  .simp_all
  intro i F N;unfold J;simp[F]
 have:=Lp hi E;have O:=(bL.1 hi).1;rw[<-C,xE (by omega)]at this;simp_all
def th:prog.underlying 58=some (.struct (prog.fieldsOf 58)):=by kernel_rfl
def oD:(prog.info? 58).map (·.size)=some 38:=by kernel_rfl
def C0:prog.underlying 37=some (.slice 58):=by kernel_rfl
def J5(w):(zeroValue 58).run prog w= .ok (J 38 fun _=> .int .u8 0) w:=by kernel_rfl
def Hn(x y):∃b:Bool,(b=true↔x=y)/\∀w,(binOp .eql 58 (bQ x).toArray (bQ y).toArray).run prog w= .ok b w/\(binOp .neq 58 (bQ x).toArray (bQ y).toArray).run prog w= .ok (.bool !b) w:=by
 have f:=fun z:dg=>Fl.EN (List.replicate 38 (some .u8)) (fk z) (fun i=> .int .u8 (Y (z.1.getD i 0))) (fun i k c=>by
  have:=(Ht.1 (cB c)).2;subst this;exact xn _)
 have:J 38 (fk x)=J 38 (fk y)↔x=y:=by
  rw[<-vQ,<-vQ];constructor
  .intro h;have c:bQ x=bQ y:=by grind
   apply Je;unfold bQ kH at c;rw[pN,pN]at c;exact(Ss (fun a b h=>by injection h with _ h;exact lQ.1 h)).1 c
  grind
 refine⟨decide (x=y),by simp,fun w=>?_⟩;have⟨b,g,j,c⟩:=(fun w=>Fl.zh (P:=prog) w (t:=58) (ks:=List.replicate 38 (some .u8)) (d:=5) (m:=5) (xs:=J 38 (fk x)) (ys:=J 38 (fk y)) (by kernel_rfl) (by kernel_rfl) (dr rfl) (by kernel_rfl) (by kernel_rfl) (f x) (f y)) w;have e:b=decide (x=y):=by
  grind
 rw[vQ,vQ,<-e]
 grind
def zL{w:World}{b o}{x}(h:w.rangeAt b o (bQ x))(c:b<w):∀a,(∃p:Regrown,a=Go.Sort.grow (redrawn w p.d) p.os)->a.rangeAt b o (bQ x):=by
 rintro a ⟨p,rfl⟩ j v e;exact((jO w p.d p.os).C (p:=⟨b,o+j,none⟩) c).t (h j v e)
def zb{ops}{C}{Q}{o}{rest}{a}(c:Region.wanted o (yielded ops a.tmps)=true)(x)(e:o.op= .load 58 x)(b k)(g:a.eval x= .pointer (some ⟨b,k,none⟩))
 (f)(G)(m:G=(bQ f).toArray)(i:∀w,C w->w.rangeAt b k (bQ f))(h:wpQuiet prog ops C Q rest (a.put o.dst G)):wpQuiet prog ops C Q (o::rest) a:=
 Cd c fun K j=>⟨_,fun w l=>by
  unfold Oper.quietAt execOp;simp only[e,g,Instr.loadAt,Instr.sureAddr,eD,eZ,eY,qu w b k 58 (bQ f) _ (i w l) th rfl (by rw[oD,lW])];exact⟨rfl,rfl⟩,j _ (by grind)⟩
def YW(w)(ty)(g o m c n)(G)(a:aj w g 58 n G)(l:0<m)(b:o+m*38<=n):
 (Builtin.clear_ #[37] ty #[.slice (some ⟨g,o,none⟩) m c]).run prog w= .ok (.tuple #[]) (w.setCells g o ((List.range (m*38)).map fun _=> .int .u8 0)):=by
 have e:(Builtin.zeroCells (Value.agg (J 38 fun _=> .int .u8 0)).cells m).toList=(List.range (m*38)).map fun _=>Value.int .u8 0:=by
  rw[show(Value.agg (J 38 fun _=>Value.int .u8 0)).cells=J 38 fun _=> .int .u8 0 from rfl];unfold Builtin.zeroCells;simp only[Array.toList_map,Array.toList_range];unfold J
  grind
 have f:=run_storeCells_cells (P:=prog) g o ((List.range (m*38)).map fun _=>Value.int .u8 0) 0 w (fun j h=>by
  have:=a.there o (m*38) b j (by grind)
  grind) (fun j h=>(a.there o (m*38) b j (by grind)).2) (by intro v h;obtain⟨_,_,rfl⟩:=bX.1 h;rfl)
 simp only[vY]at f;have h:=J5;have⟨Z,i⟩:=eX (Value.agg (J 38 fun _=> .int .u8 0));rw[<-i]at e h;clear i;obtain⟨m,rfl⟩:∃q,m=q+1:=⟨m-1,by omega⟩
 simp[Builtin.clear_,Ji C0,h,e,f]
def DJ{a:Type}{l:List a}{k}{x:a}(h:l[k]? =x):l.take (k+1)=l.take k++[x]:=by
 rw[jd,h];rfl
def FU{a:Type}{l:List a}{k}{y:a}(h:l[k]? =y):(l.take (k+1)).getLast?=some y:=by
 grind
section
attribute [local irreducible] Code.wp wpList Oper.wp wpQuiet
def FM.store{W'}{g h:Nat}{M:List dg}{x}{i}{G}(u:∀(i:Nat)(x:dg),M[i]? =x->∀j,j<38->G (i*38+j)=fk x j)(f:M<=h)(o:aj W' g 58 (h*38) (bm G (i*38) 38 (fk x))):FM W' g h (M.set i x):=by
 refine⟨⟨_,o,fun p y f j r=>?_⟩,by grind⟩;rw[List.getElem?_set]at f;by_cases e:i=p
 .rw[aq e]at f;split at f
  .injection f with f;subst e f;exact Hr _ _ _ _ r
  grind
 rw[kE _ _ _ _ (by omega)]
 grind
def QX{w c W:World}{r}(a:w.grownBy c r)(b:Below c c W):w.grownBy W r:=
 ⟨b.os.t a.os,b.tape.t a.tape,b.output.t a.output,aO a.size b.size,fun k e f=>(b.block k (aW e a.size)).t (a.block k e f)⟩
def Wt(g o:Nat)(d:List dg)(w:World)(a:FM w g o d)(ax:d.length<=1000000)(al:1<=d.length):
 Calls prog 31 #[.slice g d o] w fun e am=>e=(Value.slice g (jo d) o)/\(∃M,FM am g o M/\∀(i:Nat)(x:dg),(jo d)[i]? =x->M[i]? =x)/\w.grownBy am (some g):=by
 have an:=a.le;have c:w.grownBy w (some g):=⟨rfl,rfl,rfl,av _,fun _ _ _=>rfl⟩
 have⟨n,b⟩:=eX d.length;rw[<-b]at ax al an⊢;have m:=aD a c b;clear a c b;by_cases af:n<2
 .have aC:(n:Int)<2:=by omega
  go_enter func31,ntmps31;go_wp2;go_ret;have e:jo d=d:=by
   obtain _|⟨x,_|⟨y,l⟩⟩:=d
   .rfl
   .rfl
   have:=m.C;simp at this;omega
  exact⟨by rw[e,<-m.C];rfl,⟨d,m.a,by rw[e];intros;assumption⟩,m.b⟩
 have:¬(n:Int)<2:=by omega
 go_enter func31,ntmps31;go_wp2
 go_loopw [3] (fun s wr=>∃q,q+1<=n/\s= .int .i64 ((q:Int)+1)/\FM wr g o d/\w.grownBy wr (some g)/\jo (d.take (q+1))=d.take (q+1)) (fun s _=>n-(intOf s).toNat)
 case atStart=>
  refine⟨0,al,rfl,m.a,m.b,?_⟩;obtain _|⟨x,l⟩:=d
  .rfl
  rfl
 obtain⟨q,aE,rfl,f,t,T⟩:=hrel;have⟨aF,ay⟩:=eX wr;subst ay;by_cases q+1<n
 .have aG:(q:Int)+1<n:=by omega
  have:wrap64 ((q:Int)+1-1)=q:=by unfold wrap64;omega
  have:(0:Int)<=(q:Int)+1:=by omega
  have:((q:Int)+1).toNat=q+1:=by omega
  have:(q:Int)<n:=by omega
  obtain⟨x,v⟩:∃x,d[q+1]? =some x:=⟨_,aI (by have:=m.C;omega)⟩
  obtain⟨y,A⟩:∃y,d[q]? =some y:=⟨_,aI (by have:=m.C;omega)⟩
  have⟨C,F,I⟩:=Hn x y;have L:=zL (f.range v) f.lt;have N:=zL (f.range A) f.lt;have⟨ao,a⟩:=eX (bQ x).toArray;have⟨ap,c⟩:=eX (bQ y).toArray;have ag:∀w,(binOp .eql 58 ao ap).run prog w= .ok C w:=fun w=>by rw[a,c];exact(I w).1
  have b:=pn f t T F L N a c v A;clear f t T F L N I a c v A
  go_wp2_with fail
  refine bV (by kernel_rfl) ?_
  repeat(first|(refine zb rfl (.tmp 18) rfl g ((q+1)*38) rfl x ao b.g b.e ?_)|(refine zb rfl (.tmp 23) rfl g (q*38) rfl y ap b.h b.f ?_)|go_big_quiet_step (fail)|quiet_step (fail))
  refine qn fun aH ar=>?_;have W:=aA (b.a.Z ar b.a.lt) (QX b.b ar);cases C with
  |false=>
   go_wp2;refine⟨⟨q+1,by omega,by go_num,W.a,W.B,?_⟩,by simp[intOf];omega⟩;rw[DJ b.i,DE,FU b.J,O (by intro h;injection h with h;have:=b.d.2 h.s;cases this),b.c]
  |true=>
   have a:jo (d.take (q+2))=d.take (q+1):=by
    rw[DJ b.i,DE,FU b.J,aq (by rw[b.d.1 rfl]),b.c]
   have az:=H a;clear a;go_wp2
   go_loopw [3,5] (fun c a wr=>∃(i r:Nat)(K M:List dg),c= .int .i64 i/\a= .int .i64 ((r:Int)+1)/\q+r+2<=n/\i<=q+r+1/\K=i/\K=jo (d.take (q+r+2))/\FM wr g o M/\M=n/\(∀p,p<i->M[p]? =K[p]?)/\(∀p,q+r+1<=p->M[p]? =d[p]?)/\w.grownBy wr (some g)) (fun _ a _=>n-(intOf a).toNat)
   case atStart=>
    refine⟨q+1,0,d.take (q+1),d,rfl,rfl,by omega,by omega,by have:=m.C;simp;omega,az.y.s,W.a,m.C.s,fun p u=>(xE u).s,fun _ _=>rfl,W.B⟩
   obtain⟨i,r,K,M,rfl,rfl,aJ,aK,E,P,f,X,aa,Q,t⟩:=hrel;have⟨ah,aB⟩:=eX wr;subst aB;have au:=m.C;have⟨G,R,ab⟩:=f.ex;by_cases q+r+2<n
   .have aL:(r:Int)+1<((n-(q+1):Nat):Int):=by omega
    have aM:wrap64 ((r:Int)+1-1)=r:=by unfold wrap64;omega
    have:(0:Int)<=(r:Int)+1:=by omega
    have:((r:Int)+1).toNat=r+1:=by omega
    have:(r:Int)<((n-(q+1):Nat):Int):=by omega
    have:(i:Int)<n:=by omega
    obtain⟨x,v⟩:∃x,d[q+r+2]? =some x:=⟨_,aI (by omega)⟩
    obtain⟨y,A⟩:∃y,d[q+r+1]? =some y:=⟨_,aI (by omega)⟩
    have⟨C,F,I⟩:=Hn x y;have ad:=f.range ((Q _ (by omega)).t v);have ai:=f.range ((Q _ (by omega)).t A);rw[show(q+r+2)*38=(q+1)*38+(r+1)*38 by omega]at ad;rw[show(q+r+1)*38=(q+1)*38+r*38 by omega]at ai;have L:=zL ad f.lt;have N:=zL ai f.lt;have⟨aj,ae⟩:=eX (bQ x).toArray;have⟨aw,ak⟩:=eX (bQ y).toArray;have ag:∀w,(binOp .neq 58 aj aw).run prog w= .ok (.bool !C) w:=fun w=>by rw[ae,ak];exact(I w).2
    have a:=P9 f R ab t F L N ae ak v A ad (by rw[ae,vQ]:aj=J 38 (fk x)) aa Q;have c:=aD P E X;clear f R ab t F L N I ae ak v A ad ai aa Q P E X au;have⟨N,v⟩:=eX (!C);rw[<-v]at ag;have I:=H v;clear v
    go_wp2_with fail
    refine bV (by kernel_rfl) ?_
    repeat(first|(refine zb rfl (.tmp 37) rfl g ((q+1)*38+(r+1)*38) rfl x aj a.h a.f ?_)|(refine zb rfl (.tmp 42) rfl g ((q+1)*38+r*38) rfl y aw a.i a.g ?_)|go_big_quiet_step (fail)|quiet_step (fail))
    refine wpQuiet_nil ?_;intro aN F;have A:=E0 F;have v:=aY (a.b.Z A a.b.lt) (QX a.d A) (a.f _ F) (a.a.Z A a.a.lt);clear F A ag;cases N with
    |false=>
     go_wp2_with fail
     have A:=a.e.1 (by have h:=I.y;cases C;exact absurd h (dr rfl);rfl);refine⟨⟨i,r+1,K,M,rfl,by go_num,by omega,by omega,c.b,?_,v.D,c.C,a.n,fun p u=>a.O p (by omega),v.b⟩,by simp[intOf];omega⟩;rw[show q+(r+1)+2=q+r+2+1 by omega,DJ a.j,DE,FU a.k,aq (by rw[A])];exact c.a
    |true=>
     have A:¬x=y:=fun h=>by have ad:=a.e.2 h;have af:=I.y;rw[ad]at af;cases af
     have ae:=H A;clear A
     go_wp2_with (first|(refine iI rfl 58 (.tmp 49) rfl g ((q+1)*38+(r+1)*38) rfl (bQ x) _ v.c th rfl (by rw[oD,lW]) ?_;rw[<-a.h])|(refine eP rfl 58 (.tmp 51) (.tmp 50) rfl g (i*38) 38 (o*38) 58 G (fk x) rfl (cg Value.agg a.m) v.a (by omega) oD (fun i _=>rfl) ?_;intro ag A F;have L:=aA A F;clear A F))
     refine⟨⟨i+1,r+1,K++[x],M.set i x,by go_num,by go_num,by omega,by omega,by rw[dc,c.b];rfl,?_,FM.store a.c (by have:=c.C;omega) L.a,by rw[List.length_set];exact c.C,fun p u=>?_,fun p u=>?_,v.b.t L.B⟩,by simp[intOf];omega⟩
     .rw[show q+(r+1)+2=q+r+2+1 by omega,DJ a.j,DE,FU a.k,O (by intro h;injection h with h;exact ae.y h.s),<-c.a]
     .have E:=c.b;by_cases e:i=p
      .subst e;rw[List.getElem?_set_self (by have:=c.C;omega),kB (by omega),E];simp
      rw[Tm e,a.n p (by omega),lE (by omega)]
     rw[Tm (by omega)];exact a.O p (by omega)
   have ag:q+r+2=n:=by omega
   have:¬(r:Int)+1<((n-(q+1):Nat):Int):=by omega
   have ai:=fun ak=>YW ah ak g (i*38) (n-i) (o-i) (o*38) G R (by omega) (by have:=xq 38 an;rw[Nat.sub_mul];omega);have A:=R.setCells ((n-i)*38) (i*38) (fun _=> .int .u8 0);have F:=vx ((List.range ((n-i)*38)).map fun _=>Value.int .u8 0) ah g (i*38);have⟨w9,L⟩:=eX (ah.setCells g (i*38) ((List.range ((n-i)*38)).map fun _=>Value.int .u8 0));rw[<-L]at ai A F;have:(i:Int)<=n:=by omega
   rw[show q+r+2=n from ag,sl (by omega)]at P;have c:=jR P E A F ab aa t X;clear f R ab t aa Q P E X au A F L;go_wp2;go_ret;refine⟨by rw[<-c.a,c.b];rfl,⟨M.take i,⟨⟨_,c.c,fun p z u j E=>?_⟩,by simp;omega⟩,?_⟩,c.g.t c.d⟩
   .have A:p<i:=by have:=(bL.1 u).1;simp at this;omega
    rw[xE A]at u;rw[kE _ _ _ _ (.inl (by have:=xq 38 (A);omega))];exact c.e p z u j E
   rw[<-c.a];intro p z F u;have A:p<i:=by have:=(bL.1 u).1;have:=c.b;omega
   rw[xE A,c.f p A];exact u
 obtain rfl:n=q+1:=by omega
 have:¬(q:Int)+1<((q+1:Nat):Int):=by omega
 have b:=aD f t T;clear f t T;go_wp2;go_ret;have e:jo d=d:=by have:=b.C;rwa[sl (by have:=m.C;omega)]at this
 exact⟨by rw[e,<-m.C];rfl,⟨d,b.a,by rw[e];intros;assumption⟩,b.b⟩
end
end Go.Proofs.YtilhngjecfdgpaaGreatDoor
namespace Go.Proofs
def Tryz.aeK:Shelf.Ren:=⟨fun|6=>29|15=>82|14=>81|28=>133|29=>134|20=>125|21=>126|22=>127|23=>128|24=>129|25=>130|26=>131|27=>132|46=>193|47=>194|48=>195|49=>196|50=>197|57=>225|n=>n,fun|22=>37|24=>58|25=>105|3=>3|39=>167|0=>0|53=>194|55=>49|4=>4|46=>238|45=>237|50=>215|5=>5|9=>9|66=>290|70=>294|76=>317|77=>318|n=>n,fun|n=>n⟩
def Tryz.Qf:SlLaysF0.n6 Tryz.prog Tryz.aeK:=⟨by kernel_rfl,⟨Tryz.f29.name,by decide,Tryz.func29.t (cs (by kernel_rfl))⟩,⟨Tryz.f81.name,by decide,Tryz.func81.t (cs (by kernel_rfl))⟩,Tryz.func82.t (cs (by kernel_rfl)),⟨Tryz.f125.name,by decide,Tryz.func125.t (cs (by kernel_rfl))⟩,⟨Tryz.f126.name,by decide,Tryz.func126.t (cs (by kernel_rfl))⟩,⟨Tryz.f127.name,by decide,Tryz.func127.t (cs (by kernel_rfl))⟩,⟨Tryz.f128.name,by decide,Tryz.func128.t (cs (by kernel_rfl))⟩,⟨Tryz.f129.name,by decide,Tryz.func129.t (cs (by kernel_rfl))⟩,⟨Tryz.f130.name,by decide,Tryz.func130.t (cs (by kernel_rfl))⟩,⟨Tryz.f131.name,by decide,Tryz.func131.t (cs (by kernel_rfl))⟩,⟨Tryz.f132.name,by decide,Tryz.func132.t (cs (by kernel_rfl))⟩,Tryz.func133.t (cs (by kernel_rfl)),Tryz.func134.t (cs (by kernel_rfl)),⟨Tryz.f193.name,by decide,Tryz.func193.t (cs (by kernel_rfl))⟩,Tryz.func194.t (cs (by kernel_rfl)),Tryz.func195.t (cs (by kernel_rfl)),⟨Tryz.f196.name,by decide,Tryz.func196.t (cs (by kernel_rfl))⟩,⟨Tryz.f197.name,by decide,Tryz.func197.t (cs (by kernel_rfl))⟩,⟨Tryz.f225.name,by decide,Tryz.func225.t (cs (by kernel_rfl))⟩,Lw,Tryz.isAgg0,Tryz.sizeOf0,Tryz.zeroValue0,Gp,Ge,FK,FQ,FV,Fx,EB,Fj,Tryz.underlying5,Tryz.isAgg5,Tryz.sizeOf5,Tryz.zeroValue5,Mi,Tryz.isAgg9,Tryz.sizeOf9,Tryz.zeroValue9,Tryz.underlying37,Tryz.isAgg37,Tryz.sizeOf37,Tryz.zeroValue37,Tryz.underlying105,Tryz.isAgg105,Tryz.sizeOf105,Tryz.zeroValue105,Tryz.underlying167,Tryz.isAgg167,Tryz.sizeOf167,Tryz.zeroValue167,Tryz.underlying237,Tryz.isAgg237,Tryz.sizeOf237,Tryz.zeroValue237,Tryz.underlying238,Tryz.isAgg238,Tryz.sizeOf238,Tryz.zeroValue238,Tryz.underlying215,Tryz.isAgg215,Tryz.sizeOf215,Tryz.zeroValue215,Tryz.underlying194,Tryz.isAgg194,Tryz.sizeOf194,Tryz.zeroValue194,Tryz.underlying49,Tryz.isAgg49,Tryz.sizeOf49,Tryz.zeroValue49,Tryz.underlying290,Tryz.isAgg290,Tryz.sizeOf290,Tryz.zeroValue290,Tryz.underlying294,Tryz.isAgg294,Tryz.sizeOf294,Tryz.zeroValue294,Tryz.underlying317,Tryz.isAgg317,Tryz.sizeOf317,Tryz.zeroValue317,Tryz.underlying318,Tryz.isAgg318,Tryz.sizeOf318,Tryz.zeroValue318⟩
end Go.Proofs
namespace Go.Proofs.YtilhngjecfdgpaaGreatDoor
open Go.RowKit Go.Shelf Go.Proofs.Tryz
section
open Go.Sort
def abh(x){j}(a:j<38):(bQ x)[j]! =fk x j:=by
 have:=cg (fun l:List Value=>l[j]?) (DR x)
 grind
def R5(d:List dg){i j}{x:dg}(a:d[i]? =x)(b:j<38):(flatK bQ 38 d.toArray)[i*38+j]! =fk x j:=by
 rw[get_flatK _ _ _ _ (by have:=xq 38 (((bL.1 a).1));simp;omega),show(i*38+j)/38=i by omega,show(i*38+j)%38=j by omega];have:d.toArray[i]! =x:=by simp[a]
 rw[this,abh x b]
def FM.holds{W}{g cap}{M}(h:FM W g cap M):HoldsK bQ 38 W g 0 M.toArray:=by
 have⟨G,f,u⟩:=h.ex;intro t i;rw[size_flatK]at i;simp only[jC]at i;have o:=aI (show t/38<M by omega);have w:=R5 M o (show t%38<38 by omega);have r:=u _ _ o (t%38) (by omega);rw[show t/38*38+t%38=t by omega]at w r;have:=h.le;refine⟨?_,f.free _⟩;rw[cK,f.C t (by omega),r]
 grind
def FM.My{W}{g cap n}{os}{M L:List dg}(h:FM W g cap M)(u:L.length=M):FM (sortWorldK bQ 38 W g 0 n L.toArray os) g cap L/\W.grownBy (sortWorldK bQ 38 W g 0 n L.toArray os) (some g):=by
 have⟨G,o,F⟩:=h.ex;have r:(sortWorldK bQ 38 W g 0 n L.toArray os).1[g]? =some (.cells (putCells id 0 (flatK bQ 38 L.toArray) (J (cap*38) G)) 58 (0,0)):=by
  unfold sortWorldK putRowK;rw[heap_grow_old _ _ (by simpa[Sort.ahead]using o.lt)];have w:W.1[g]? =some (.cells (J (cap*38) G) 58 (0,0)):=o;simp[putRow,mapBlock,Sort.ahead,Ew,w,onCells]
 have⟨C,f⟩:=eX (putCells id 0 (flatK bQ 38 L.toArray) (J (cap*38) G));rw[<-f]at r;have:C.size=cap*38:=by rw[f];simp[putCells,dF]
 refine⟨⟨⟨fun i=>C.getD i undef,?_,fun i x hi j y=>?_⟩,by rw[u];exact h.le⟩,?_⟩
 .show _=_;rw[r];congr 2;apply Array.ext
  .simp_all
  intro i A H;unfold J;simp[A]
 .have:=(bL.1 hi).1;have:=h.le;have:i*38+j<L*38:=by omega
  have:i*38+j<cap*38:=by omega
  have:=R5 L hi y;show C.getD (i*38+j) undef=_;rw[Array.getD_eq_getD_getElem?,f];unfold putCells;simp_all
 unfold sortWorldK putRowK;refine⟨rfl,rfl,rfl,by simp,fun k I E=>?_⟩;rw[heap_grow_old _ _ (by simp_all)];have:g≠k:=fun e=>E (by rw[e]);simp[putRow,mapBlock,Sort.ahead,Ew,this]
def adS(g cap)(d)(w)(a:FM w g cap d)(f:d.length<=1000000):
 Calls prog 29 #[.slice g d cap,.func (.func 30) #[] #[]] w fun e b=>e=(Value.tuple #[])/\FM b g cap (tA d)/\w.grownBy b (some g):=by
 refine(AnyQ.slices_SortFunc_total Qf 38 (fun w=>by kernel_rfl) (fun w=>by kernel_rfl) bQ lW (fun x v c=>by unfold bQ at c;obtain⟨_,_,rfl⟩:=bX.1 c;rfl) jB tZ 30 #[] g 0 cap d.toArray w (fun _ _=>by kernel_rfl) (fun m c h i x y=>acN x y _) a.holds a.lt (by grind) Uy).m ?_;rintro e b ⟨rfl,n,c,rfl⟩;exact⟨rfl,a.My (RJ d)⟩
end
end Go.Proofs.YtilhngjecfdgpaaGreatDoor
namespace Go.Proofs
def Tryz.aaL:Shelf.Ren:=⟨fun|4=>80|n=>n,fun|22=>37|25=>58|3=>3|4=>4|9=>9|20=>20|0=>0|n=>n,fun|n=>n⟩
def Tryz.Sv:Lays8.n4 Tryz.prog Tryz.aaL:=⟨by kernel_rfl,⟨Tryz.f80.name,by decide,Tryz.func80.t (cs (by kernel_rfl))⟩,Lw,Tryz.isAgg0,Tryz.sizeOf0,Tryz.zeroValue0,Gp,Ge,FK,FQ,FV,Fx,EB,Fj,Mi,Tryz.isAgg9,Tryz.sizeOf9,Tryz.zeroValue9,Tryz.underlying20,Tryz.isAgg20,Tryz.sizeOf20,Tryz.zeroValue20,Tryz.underlying37,Tryz.isAgg37,Tryz.sizeOf37,Tryz.zeroValue37⟩
end Go.Proofs
namespace Go.Proofs.YtilhngjecfdgpaaGreatDoor
open Go.RowKit Go.Shelf Go.Proofs.Tryz
section
open Go.Sort
def FX:(prog.info? 58).map (fun i=>(i.zero,i.size,i.bytes))=some (some (.agg (J 38 fun _=> .int .u8 0)),38,38):=by kernel_rfl
def Vz(n:Nat)(w:World)(l:n<=1000000):Calls prog 80 #[nS,.int .i64 n] w fun e b=>∃v,e= .returned v/\b.ownsRow w.1.size 58 38 v 0 []/\Below w w b:=by
 have⟨f,g,i,m,o⟩:=eQ FX;by_cases j:n=0
 .subst j;have h:=Any8.slices_Grow_room Sv none 0 0 0 w (by omega) (by omega) (by omega) (by omega);exact h.m fun _ _ h=>⟨_,h.1,gI _ _ _ _,by rw[h.2];exact aP _ _⟩
 have h:=Any8.slices_Grow_grow Sv f _ g i (by omega) none 0 0 n [] w (by omega) (by omega) (by grind) (by omega) (by simp) (fun _=>rfl) (fun a h=>by cases h);refine h.m ?_;rintro e b ⟨rfl,rfl⟩;have p:=grownCap_ge w (0+n) 0 58;have c:=grownCap_le_maxLen w (0+n) 0 58 (by unfold maxLen;omega);refine⟨_,rfl,⟨rfl,.inr ⟨_,_,_,rfl,av _,jZ w.drew _,by omega,c,?_,by simp⟩⟩,?_⟩
 .change(grownCap w (0+n) 0 58)<=_ at c;have:((Value.agg (J 38 fun _=>Value.int .u8 0)).cells).size=38:=by rw[show(Value.agg (J 38 fun _=>Value.int .u8 0)).cells=J 38 fun _=> .int .u8 0 from rfl,dF]
  rw[Array.size_append,Array.size_append,size_zeroCells,size_zeroCells,this];show 0+(0+n-0)*38+(grownCap w (0+n) 0 58-(0+n))*38=grownCap w (0+n) 0 58*38;omega
 exact(rY w).alloc (av _) _
def Wy{P:Program}{w:World}{ops}{rest}{o}{a}{Q}(f:o.guard=none)(s x)(t)
 (l:o.op= .call {callee:= .builtin .append,args:=#[s,x],argTypes:=#[t,t]})
 (base b2)(e)(i:TypeInfo)(z:Value)(size bytes)(p:P.underlying t=some (.slice e))(r:P.info? e=i)(E:i.zero=z)
 (F:i.size=size)(H:i.bytes=bytes)(I:z.cells.size=size)(J:0<size)
 (v u)(n m)(xs ys)(y:a.eval s=v)(A:w.ownsRow base e size v n xs)(C:a.eval x=u)(L:w.ownsRow b2 e size u m ys)(M:∀q∈ys,q.oneCell'=true)
 (N:n+m<=maxLen)(O:(n+m)*bytes<=140737488355328)(R:base<=w)
 (h:∀c b,b.ownsRow base e size c (n+m) (xs++ys)->w.grownBy b v.ownBlock->wpList P ops Q rest (a.put o.dst c) b):wpList P ops Q (o::rest) a w:=by
 obtain⟨T,⟨rfl,rfl⟩|⟨g,W,af,rfl,ag,X,ah,ai,aj,aa⟩⟩:=L
 .exact T6 f s x t l base e i size p r v n xs y A C (h v w (by grind) ⟨rfl,rfl,rfl,av _,fun _ _ _=>rfl⟩)
 refine qJ w f s x t l base e i z size bytes p r E F H I J v n xs y A g m W ys C T (fun j q ab=>?_) M N O R (fun c b ad ae _=>h c b ad ae);rw[eV,cK,lN w g j _ _ _ X,<-ab,<-aa,xE (by grind),Array.getElem?_toList]
def afg(l o:Nat)(v)(d:List dg)(w)(a:w.ownsRow o 58 38 v d (fw d))(b:w.cell? l=some v)(r:d.length<=1000000):
 Calls prog 28 #[.slice l 1 1] w fun e t=>∃u,e= .returned u/\t.ownsRow w.1.size 58 38 u d.length (fw d)/\Below w.1.size w t:=by
 have⟨A,c,E⟩:=bo a (dr rfl);subst E;have⟨F,H,I,J,L⟩:=eQ FX;have⟨n,f⟩:=eX d.length;rw[<-f]at a r b⊢;have m:=Vz n w r;have g:=aY a b f (oU _ _ b);clear a b f;go_enter func28,ntmps28;go_wp2
 go_loopw [3,11] (fun s i wr=>wr=w/\((s= .int .i64 0/\i= .int .i64 0)\/(s= .int .i64 n/\i= .int .i64 1))) (fun _ i _=>1-(intOf i).toNat)
 case atStart=>exact⟨rfl,.inl ⟨rfl,rfl⟩⟩
 obtain⟨rfl,h⟩:=hrel;obtain⟨rfl,rfl⟩|⟨rfl,rfl⟩:=h
 .have cs:=g.b;have:¬(n:Int)<0:=by omega
  have:wrap64 (n:Int)=n:=by unfold wrap64;omega
  clear m;go_wp2;exact⟨by simp,by simp[intOf]⟩
 have⟨wc,M⟩:=eX wr;subst M
 go_wp2_with fail
 refine m.m ?_;rintro e Q ⟨R,rfl,b,a⟩;clear m;have m:=aA b a;clear b a;go_wp2
 go_loopw [6,27] (fun s i W=>∃k,i= .int .i64 k/\Below wc wc W/\((k=0/\W.ownsRow wc 58 38 s 0 [])\/(k=1/\W.ownsRow wc 58 38 s n (fw d)))) (fun _ i _=>1-(intOf i).toNat)
 case atStart=>exact⟨0,rfl,m.B,.inl ⟨rfl,m.a⟩⟩
 obtain⟨k,rfl,a,⟨rfl,f⟩|⟨rfl,f⟩⟩:=hrel
 .have⟨T,N⟩:=eX wr;subst N;have⟨X,aa,O⟩:=bo f (dr rfl);subst O;have:=(a.C (p:=l) g.D).t g.b;have b:=aD a f (bP g.a a);have y:=a.size;clear a f
  go_wp2_with (at_builtin;refine Wy rfl _ _ 37 rfl wc o 58 F _ 38 38 C0 H I J L (dF _ _) (dr rfl) _ _ 0 n [] (fw d) rfl b.b rfl b.C (fun q z=>by unfold fw at z;have⟨x,_,C⟩:=mR.1 z;unfold bQ at C;obtain⟨_,_,rfl⟩:=bX.1 C;rfl) (by unfold maxLen;omega) (by omega) y ?_;intro ab w9 ad P)
  refine⟨⟨1,rfl,b.a.b P y (fun j e=>(b.b.lt j e).1),.inr ⟨rfl,by grind⟩⟩,by simp[intOf]⟩
 have b:=aA a f;clear a f;go_wp2;go_ret;exact⟨_,rfl,b.B,b.a⟩
end
def fy(d:List dg):List dg:=jo (tA d)
section
open Go.Sort
def aee(A)(c)(w):Calls prog 31 #[.slice A 0 c] w fun e a=>e=(Value.slice A 0 c)/\a=w:=by
 go_enter func31,ntmps31;go_wp2;go_ret;exact⟨rfl,rfl⟩
def SM(b2)(v)(d:List dg)(w)(l:w.ownsRow b2 58 38 v d (fw d))(q:d.length<=1000000):
 Calls prog 15 #[v] w fun e x=>∃r,e= .returned r/\x.ownsRow ↑w 58 38 r ↑(fy d) (fw (fy d))/\Below w w x:=by
 have⟨A,c,J⟩:=bo l (dr rfl);subst J;have⟨y,f⟩:=eX (w.alloc (.cells #[.slice A d c] 37));have m:Below w w y:=by rw[f];exact ba w _
 have i:=afg w.1.size b2 _ d y (bP l m) (by simp_all) q;have⟨n,o⟩:=eX d.length;rw[<-o]at f i q⊢;have b:=aY m i o f;clear l m i o f;go_enter func15,ntmps15
 go_wp2_with fail
 rw[<-b.D];refine b.b.m ?_;rintro e p ⟨r,rfl,l,L⟩;have z:=b.a.t (L.m b.a.size);by_cases m:d=[]
 .have N:n=0:=by rw[b.c,m];rfl
  subst N;have⟨s,t,u⟩:=bo l (dr rfl);subst u;have o:=AnyF.slices_SortFunc_none Qf s t (.func (.func 30) #[] #[]) p;have O:=aee s t p;have P:p.ownsRow w 58 38 (.slice s 0 t) 0 []:=by
   rw[m]at l;obtain⟨a,h|⟨g,Q,R,T,W,X⟩⟩:=l
   .exact⟨a,.inl h⟩
   exact⟨a,.inr ⟨g,Q,R,T,aO b.a.size W,X⟩⟩
  have f:=aD z P m;change Calls prog 29 _ _ _ at o
  go_wp2_with fail
  refine o.m ?_;rintro e C ⟨rfl,rfl⟩
  go_wp2_with fail
  refine O.m ?_;rintro e aa ⟨rfl,rfl⟩;go_wp2;go_ret;refine⟨_,rfl,?_,f.a⟩;rw[f.C,show fy []=[]from by unfold fy tA;simp[jo]];exact f.b
 rw[b.c]at l;have⟨g,E,u,ab,ad,ae⟩:=FM.TG l m;subst u;have o:=adS g E d p ae (by rw[<-b.c];exact q);rw[<-b.c]at o⊢;have:1<=n:=by rw[b.c];exact yT.2 m
 have f:=aD z (aO b.a.size ab) ad
 go_wp2_with fail
 refine o.m ?_;rintro e C ⟨rfl,af,ag⟩;have ah:(tA d)=n:=by rw[RJ,b.c]
 have i:=Wt g E (tA d) C af (by omega) (by omega);rw[ah]at i;have F:=H (f.a.b ag f.a.size (fun j e=>by injection e with e;rw[<-e];exact f.b))
 go_wp2_with fail
 refine i.m ?_;rintro e aa ⟨rfl,⟨M,ai,aj⟩,ak⟩;have I:=aA (ai.owns f.b f.C _ _ aj rfl) (F.y.b ak F.y.size (fun j e=>by injection e with e;rw[<-e];exact f.b));go_wp2;go_ret;exact⟨_,rfl,I.a,I.B⟩
end
def rZ(a:XE):dg:=⟨(List.range 32).map a.L++(List.range 6).map a.mem,by simp⟩
def gJ(m:Nat)(a:List gO):List dg:=(a.filter fun c=>qp m c.x c.F==0).map fun c=>rZ c.x
def acd{m}{a:List gO}{k}{c:gO}(h:a[k]? =c):gJ m (a.take (k+1))=if(qp m c.x c.F==0)=true then gJ m (a.take k)++[rZ c.x]else gJ m (a.take k):=by
 unfold gJ;rw[jd,h,oh,kx]
 grind
def La(m)(cl):(gJ m cl)<=cl.length:=by unfold gJ;rw[cV];exact wM _ _
section
open Go.Sort
attribute [local irreducible] Code.wp wpList Oper.wp wpQuiet
def agX(X)(ve)(j)(a:j<38):xG X ve (295+j)=fk (rZ X) j:=by
 unfold fk rZ;by_cases h:j<32
 .rw[WM X ve j h];simp_all
 obtain⟨l,rfl⟩:∃l,j=32+l:=⟨j-32,by omega⟩
 rw[show 295+(32+l)=327+l by omega,L9 X ve l]
 grind
def xw{P}{ops}{Q}{rest}{a}{w}{d}(t)(n)(xs){tp}{ps af g}(h:wpList P ops Q (Oper.mk d (.buildSlice t n xs) tp ps af g::rest) a w):wpList P ops Q (Oper.mk d (.buildSlice t n xs) tp ps af g::rest) a w:=h
def afN{W}{base}{v}{cl}(h:ri W base v cl){i}{c:gO}(n:cl[i]? =c):
 ∃b l A k,v= .slice (b:Nat) cl.length l/\b<W.1.size/\W.rangeAt b (i*333) ((List.range 333).map (xG c.x (.slice A c.F k)))/\eG W A c.F:=by
 obtain⟨a,y,m,o⟩:=h;have:=(bL.1 n).1;obtain⟨cs,p⟩:∃cs,a[i]? =some cs:=⟨_,aI (by omega)⟩
 have⟨A,k,e1,e2,_⟩:=o i c cs n p;have s:∀q∈a,q.length=333:=by
  intro q t;obtain⟨j,w,rfl⟩:=iD t;have⟨_,_,e,_⟩:=o j cl[j] a[j] (aI (by omega)) (aI w)
  grind
 obtain⟨_,f⟩|⟨g,l,z,f,_⟩:=m.2
 .omega
 have x:=m.lt g (by rw[f];rfl);refine⟨g,l,A,k,f,x.2,fun j u r=>?_,e2⟩;rw[<-e1]at r;have:=m.cells (g:=g) (by rw[f];rfl) (i*333+j) u (Lq 333 a s i cs j u p r);rw[eV,cK]at this;omega
def UQ(m au N:Nat)(g:Nat->Value)(I:Option (List gO))(w:World)(aG:2<=m)(aH:m<=4)
 (y:∀W,Below w w W->Calls prog 13 #[.agg (J 10 g),.int .i64 au] W fun e f=>∃v,e= .returned (.tuple #[v,.int .i64 (if I.isSome then 0 else 5)])/\(∀b,I=some b->ri f W.1.size v b)/\Below W.1.size W f)
 (z:∀b,I=some b->b.length<=3000/\∀c∈b,∃ab,Cy N c ab)(C:bh w):
 Calls prog 6 #[.agg (J 10 g),.int .u8 m,.int .i64 au] w fun e f=>∃v,e= .returned (.tuple #[v,.int .i64 (if I.isSome then 0 else 5)])/\(∀b,I=some b->f.ownsRow w.1.size 58 38 v (fy (gJ m b)).length (fw (fy (gJ m b))))/\Below w w f:=by
 have⟨ae,l⟩:=eX (w.alloc (.cells (J 10 g) 29));have F:aj ae w.1.size 29 10 g:=by rw[l];exact aj.new _ _ _ _
 have f:Below w w ae:=by rw[l];exact ba w _
 have n:=y ae f;have⟨E,t⟩:=eX (if I.isSome then 0 else 5:Int);rw[<-t]at n⊢;have⟨aw,r⟩:=eX (J 10 g);rw[<-r]at l n⊢;have:¬aw=#[]:=by intro h;have:=cg Array.size h;rw[r,dF]at this;simp at this
 have:¬(m:Int)<1:=by omega
 have:¬(6:Int)<m:=by omega
 have o:=jR F f n z C t r l;clear F f n y z C t r l;go_enter func6,ntmps6
 go_upto_region 1 with fail
 rw[<-o.H]
 go_wp2_with (refine nF rfl 29 (.tmp 3) rfl w.1.size 0 10 10 29 g rfl o.a (dr rfl) _ fN rfl gC (h:=?_);simp only[Act.put,lX,mm,lP,cK];rw[show(J 10 fun i=>g i)=aw from o.g.s])
 refine o.c.m ?_;rintro e Q ⟨v,rfl,n,l⟩;cases I with
 |none=>
  obtain rfl:E=5:=o.f;have r:=H (o.b.t (l.m o.b.size));clear l n;go_wp2
  go_ret2
  exact⟨_,rfl,fun b e=>(by cases e),r.y⟩
 |some b=>
  obtain rfl:E=0:=o.f;have t:=n b rfl;have⟨aK,C⟩:=o.d b rfl;have⟨ax,al,ay,az,aL⟩:=eQ FX;have aM:=FN;obtain⟨af,F⟩:∃af:List (List Value),Q.ownsRow ae.1.size 60 333 v b.length af.flatten:=by
   obtain⟨af,_,y,_⟩:=t;exact⟨af,y⟩
  have⟨aW,aX,T⟩:=bo F (dr rfl);subst T;have z:=o.b.t (l.m o.b.size);have r:=aY t C z (o.e.Z z o.e.lt);clear l n t C F z;have⟨X,l⟩:=eX b.length;rw[<-l]at aK⊢;have aa:=H l;clear l;go_wp2
  go_loopw [10,30] (fun s i wr=>∃k:Nat,k<=X/\i= .int .i64 k/\Below Q Q wr/\wr.ownsRow Q.1.size 58 38 s (gJ m (b.take k)).length (fw (gJ m (b.take k)))) (fun _ i _=>X-(intOf i).toNat)
  case atStart=>exact⟨0,aQ _,rfl,aP _ _,gI _ _ _ _⟩
  obtain⟨k,aZ,rfl,z,y⟩:=hrel;have⟨a0,a1,aN⟩:=bo y (dr rfl);subst aN;have⟨n,aR⟩:=eX wr;subst aR;have aS:=z.size;by_cases k<X
  .have a2:(k:Int)<X:=by omega
   obtain⟨x,M⟩:∃x,b[k]? =some x:=⟨_,aI (by have:=aa.y;omega)⟩
   have⟨am,a3,A,t,e1,aT,ai,ak⟩:=afN r.a M;rw[<-aa.y]at e1;injection e1 with e1 _ aU;subst e1 aU;have⟨ab,ao⟩:=r.b x (cB M);have R:=acd (m:=m) M;have⟨aB,f⟩:=eX (qp m x.x x.F==0);rw[<-f]at R;have⟨L,C⟩:=eX (gJ m (b.take k));rw[<-C]at R y⊢;have:L.length<=k:=by rw[C];exact aO (La _ _) (by simp;omega)
   have ap:n.rangeAt am (k*333) ((List.range 333).map (xG x.x (.slice A x.F.length t))):=fun j u F=>(z.C (p:=⟨am,k*333+j,none⟩) aT).t (ai j u F);have⟨an,ad⟩:=eX (J 333 (xG x.x (.slice A x.F.length t)));have ag:=ak.Z z (av _);have ah:aj (n.alloc (.cells (J 333 (iu 0)) 60)) n.1.size 60 333 (iu 0):=aj.new _ _ _ _;have P:∀W,Below n n W->Calls prog 14 #[.int .u8 m,.agg an] W (Rs (.bool aB) W):=fun W aC=>by
    rw[f,ad];exact YJ m x A t N ab W aG aH ao (ag.Z aC (av _)) ((r.D.Z z r.D.lt).Z aC (r.D.Z z r.D.lt).lt)
   have⟨GE,ab⟩:=eX (J 333 (iu 0));rw[<-ab]at ah aM;have:¬GE=#[]:=by intro h;have:=cg Array.size h;rw[ab,dF]at this;simp at this
   have l:=gQ z y ap ad ah P R ag C;clear z y ai ap ad ah P R ak ag M ao f ab C
   go_upto_region 10 with(first|(refine iI rfl 60 (.tmp 32) rfl am (k*333) rfl ((List.range 333).map (xG x.x (.slice A x.F.length t))) _ l.c vM rfl (by rw[pV];simp) ?_;rw[show((List.range 333).map (xG x.x (.slice A x.F.length t))).toArray=an from l.d.s])|(refine eP rfl 60 (.tmp 12) (.tmp 33) rfl n.1.size 0 333 333 60 (iu 0) (xG x.x (.slice A x.F.length t)) rfl (cg Value.agg l.d) l.e (dr rfl) pV (fun i _=>Gv _ rfl _) ?_;intro f R ab))
   have M:Below n n f:=fJ ab;have ad:aj f n.1.size 60 333 (xG x.x (.slice A x.F.length t)):=R.congr fun i al=>by unfold bm;rw[aq ⟨by omega,by omega⟩,ez]
   have P:=l.f f M;have ag:=aA (show eu f n.1.size x.x A t x.F from eu.of ad (l.h.Z M (av _))) M;clear R ab M ad
   go_wp2_with (refine iI rfl 60 (.tmp 12) rfl n.1.size 0 rfl ((List.range 333).map (xG x.x (.slice A x.F.length t))) _ ag.a.whole vM rfl (by rw[pV];simp) ?_;rw[show((List.range 333).map (xG x.x (.slice A x.F.length t))).toArray=an from l.d.s])
   refine P.st fun R M=>?_;clear P;have ah:=ag.B.t (M.m ag.B.size);have ab:=l.a.t (ah.m aS);have P:=bP l.b ah;have ao:=ag.a.Z M;have aV:=ab.size;cases aB with
   |false=>
    have f:=aA ab P;clear M ah ab P ao;go_wp2;refine⟨⟨k+1,by omega,by go_num,f.a,?_⟩,by simp[intOf];omega⟩;rw[l.g,O (dr rfl)];exact f.B
   |true=>
    have ap:R.rangeAt n.1.size 295 (bQ (rZ x.x)):=fun j u F=>by
     have aD:j<38:=by have:=(bL.1 F).1;rwa[lW]at this
     rw[ao.cells _ (by omega),agX _ _ j aD];rw[DR]at F;simp[aD]at F;rw[F]
    have⟨ad,ar⟩:=eX (rZ x.x);rw[<-ar]at ap;have⟨ai,ak⟩:=eX (bQ ad).toArray;have aE:ai.size=38:=by rw[ak];simp[lW]
    have aF:∀j u,(bQ ad)[j]? =some u->(R.alloc (.cells ai 58)).cell? ((⟨R.1.size,0,none⟩:Addr).add j)=some u:=fun j u F=>by
     rw[eV,cK,lN _ _ j _ _ _ (jZ R (.cells ai 58)),ak];simpa using F
    have f:=dH ab P ap ak aF ar aE;clear M ah ab P ao ap ak aF ar aE
    go_wp2_with (first|(refine iI rfl 58 (.tmp 38) rfl n.1.size 295 rfl (bQ ad) _ f.c th rfl (by rw[oD,lW]) ?_;rw[<-f.d])|((with_reducible refine xw _ _ _ ?_);refine Kx rfl 37 (.tmp 39) rfl 58 ai ax _ rfl C0 al ay (by rw[az,f.G]) (by rw[f.G];decide) (by rw[f.G];decide) ?_)|(at_builtin;refine qJ _ rfl _ _ 37 rfl Q.1.size 58 ax _ 38 38 C0 al ay az aL (dF _ _) (dr rfl) _ _ _ rfl (f.b.alloc _) (R.1.size:Nat) 1 1 (bQ ad) rfl (by rw[lW]) f.e (fun q ab=>by unfold bQ at ab;obtain⟨_,_,rfl⟩:=bX.1 ab;rfl) (by unfold maxLen;omega) (by omega) (by simp;omega) ?_;intro ao w9 ah ak ap))
    refine⟨⟨k+1,by omega,by go_num,(f.a.alloc aV _).b ak (by simp;omega) (fun j e=>(f.b.lt j e).1),?_⟩,by simp[intOf];omega⟩;rw[l.g];simp only[yk];have e:fw (L++[rZ x.x])=fw L++bQ ad:=by unfold fw;rw[oI,f.f];simp
    rw[e,dc];exact ah
  obtain rfl:k=X:=by omega
  have:¬(k:Int)<k:=by omega
  rw[sl (by have:=aa.y;omega)]at y;have T:=SM Q.1.size _ (gJ m b) n y (aO (La _ _) (by have:=aa.y;omega));have l:=H (r.c.t (z.m r.c.size));have⟨L,C⟩:=eX (gJ m b);rw[<-C]at T;rw[show List.take k b=b from sl (by have:=aa.y;omega),<-C];have b:=H C;clear z y C
  go_wp2_with fail
  refine T.m ?_;rintro e R ⟨ab,rfl,P,M⟩;have f:=aA P M;clear T P M;go_wp2
  go_ret2
  refine⟨_,rfl,fun ah e=>?_,l.y.t (f.B.m l.y.size)⟩;cases e;rw[<-b.y];obtain⟨a,h|⟨y,z,C,M,P,T⟩⟩:=f.a
  .exact⟨a,.inl h⟩
  exact⟨a,.inr ⟨y,z,C,M,aO l.y.size P,T⟩⟩
end
section
open Go.Sort
def L7:∀(l:List dg)(x),x∈jo l↔x∈l
 |[],x=>nY
 |[y],x=>nY
 |y::z::l,x=>by
  have:=L7 (z::l) x;unfold jo
  grind
def Ox:∀{l:List dg},l.Pairwise (fun x y=>ltOf jB y x=false)->(jo l).Pairwise fun x y=>ltOf jB x y=true
 |[],_=>List.Pairwise.nil
 |[y],_=>List.pairwise_singleton _ _
 |x::y::l,h=>by
  have a:=(lU.1 h)
  have f:=Ox a.2;unfold jo;by_cases e:x=y
  .grind
  rw[O e];refine lU.2 ⟨fun z b=>?_,f⟩;have g:ltOf jB x y=true:=by
   cases c:ltOf jB x y
   .exact absurd (Uy x y c (a.1 y (by simp))) e
   rfl
  obtain rfl|b:=fI.1 ((L7 _ _).1 b)
  .exact g
  cases c:ltOf jB x z
  .have:=tZ.ntrans _ _ _ c ((lU.1 a.2).1 z b)
   grind
  rfl
def Ha(d)(x):x∈fy d↔x∈d:=by unfold fy;rw[L7,afZ]
def J4(d):(fy d).Pairwise fun x y=>ltOf jB x y=true:=Ox (agk d)
def aaT{a b:List dg}(c:a.Pairwise fun x y=>ltOf jB x y=true)(f:b.Pairwise fun x y=>ltOf jB x y=true)(h:∀x,x∈a↔x∈b):a=b:=by
 have g:∀{l:List dg},l.Pairwise (fun x y=>ltOf jB x y=true)->l.Nodup:=fun h=>h.imp fun{x y} i e=>by
  subst e;rw[tZ.1]at i
  grind
 refine Uj (le:=fun x y=>ltOf jB x y=true) (fun x y _ _ j m=>?_) c f ((Ex (g c) (g f)).2 h);have:=tZ.2 _ _ _ j m;rw[tZ.1]at this
 grind
def agf{a b}(h:∀x,x∈a↔x∈b):fy a=fy b:=aaT (J4 a) (J4 b) fun x=>by rw[Ha,Ha,h]
end
section
attribute [local irreducible] Code.wp wpList Oper.wp wpQuiet
def Gb{W:World}{base}{v}{L:List dg}(h:W.ownsRow base 58 38 v L (fw L)){i}{x:dg}(a:L[i]? =x):∃b c,v= .slice (b:Nat) ↑L c/\b<↑W/\W.rangeAt b (i*38) (bQ x):=by
 have j:L≠[]:=by intro e;rw[e]at a;simp at a
 have⟨g,c,l,_,_,f⟩:=FM.TG h j;exact⟨g,c,l,f.lt,f.range a⟩
def acn(b1 b2)(v u)(L:List dg)(w)(b:w.ownsRow b1 58 38 v L (fw L))(a:w.ownsRow b2 58 38 u L (fw L))(y:L.length<=1000000):
 Calls prog 18 #[v,u] w (Rs true w):=by
 have⟨A,c,l⟩:=bo b (dr rfl);subst l;have⟨P,Q,l⟩:=bo a (dr rfl);subst l;have⟨n,e⟩:=eX L.length;have f:=aD b a e;rw[<-e]at y⊢;clear b a e;have:((n:Int) !=(n:Int))=false:=by simp
 go_enter func18,ntmps18;go_wp2
 go_loopw [13] (fun i wr=>∃k,k<=n/\i= .int .i64 k/\Below w w wr) (fun i _=>n-(intOf i).toNat)
 case atStart=>exact⟨0,aQ _,rfl,aP _ _⟩
 obtain⟨k,R,rfl,b⟩:=hrel;have⟨q,z⟩:=eX wr;subst z;by_cases k<n
 .have T:(k:Int)<n:=by omega
  obtain⟨x,r⟩:∃x,L[k]? =some x:=⟨_,aI (by have:=f.C;omega)⟩
  have⟨m,W,g,s,C⟩:=Gb f.a r;have⟨o,X,h,lb,E⟩:=Gb f.b r;rw[<-f.C]at g h;injection g with g _ F;injection h with h _ I;subst g h F I;have⟨J,M,N⟩:=Hn x x;obtain rfl:J=true:=M.2 rfl;have⟨G,t⟩:=eX (bQ x).toArray;have:∀w,(binOp .neq 58 G G).run prog w= .ok (.bool false) w:=fun w=>by rw[t];exact(N w).2
  have e:=aY b (zL (fun j u a=>(b.C (p:=⟨m,k*38+j,none⟩) s).t (C j u a):q.rangeAt m (k*38) (bQ x)) (aW s b.size)) (zL (fun j u a=>(b.C (p:=⟨o,k*38+j,none⟩) lb).t (E j u a):q.rangeAt o (k*38) (bQ x)) (aW lb b.size)) t
  go_wp2_with fail
  refine bV (by kernel_rfl) ?_
  repeat(first|(refine zb rfl (.tmp 18) rfl m (k*38) rfl x G e.D e.b ?_)|(refine zb rfl (.tmp 22) rfl o (k*38) rfl x G e.D e.c ?_)|go_big_quiet_step (fail)|quiet_step (fail))
  refine qn fun aa O=>?_;go_wp2;exact⟨⟨k+1,by omega,by go_num,(H (e.a.t (O.m e.a.size))).y⟩,by simp[intOf];omega⟩
 obtain rfl:k=n:=by omega
 have:¬(k:Int)<k:=by omega
 go_wp2;go_ret;exact⟨rfl,(H b).y⟩
end
section
attribute [local irreducible] Code.wp wpList Oper.wp wpQuiet
def ae2{P}{ops}{Q}{rest}{a}{w}{d}{ty}(x){tp}{ps af g}(h:wpList P ops Q (Oper.mk d (.load ty x) tp ps af (some g)::rest) a w):wpList P ops Q (Oper.mk d (.load ty x) tp ps af (some g)::rest) a w:=h
def OQ{P:Program}{ops}{rest}{op}{a}{w}{Q}(c:Region.wanted op (yielded ops a.tmps)=true)(ty)(x)(e:op.op= .load ty x)
 (b o)(f:a.eval x= .pointer (some ⟨b,o,none⟩))(cs:List Value)(d:TypeDesc)(g:w.rangeAt b o cs)(i:P.underlying ty=d)(j:d.isRow=true)(l:(P.info? ty).map (·.size)=cs)
 (h:wpList P ops Q rest (a.put op.dst cs.toArray) w):wpList P ops Q (op::rest) a w:=
 D3 c fun K m=>wp_load_mid ty x e b o f cs d g i j l (m _ _ h)
def Vs(b1 b2)(v u)(L M:List dg)(w)(a:w.ownsRow b1 58 38 v L (fw L))(l:w.ownsRow b2 58 38 u M (fw M))(ap:L.length<=1000000)(ar:M.length<=1000000)(o:∀x∈L,x∈M):
 Calls prog 8 #[v,u] w (Rs true w):=by
 have⟨A,c,P⟩:=bo a (dr rfl);subst P;have⟨aE,aF,P⟩:=bo l (dr rfl);subst P;have⟨n,b⟩:=eX L.length;have⟨m,e⟩:=eX M.length;have g:=bM a l b e o;rw[<-b]at ap⊢;rw[<-e]at ar⊢;clear a l b e o;have au:=J5;have⟨Q,a⟩:=eX (J 38 fun _=>Value.int .u8 0);rw[<-a]at au;have:¬Q=#[]:=by intro h;have:=cg Array.size h;rw[a,dF]at this;simp at this
 have ae:=H a;clear a;go_enter func8,ntmps8;go_wp2
 go_loopw [12] (fun i wr=>∃k,k<=n/\i= .int .i64 k/\Below w w wr) (fun i _=>n-(intOf i).toNat)
 case atStart=>exact⟨0,aQ _,rfl,aP _ _⟩
 obtain⟨k,aG,rfl,a⟩:=hrel;have⟨r,av⟩:=eX wr;subst av;by_cases k<n
 .have aH:(k:Int)<n:=by omega
  obtain⟨x,b⟩:∃x,L[k]? =some x:=⟨_,aI (by have:=g.c;omega)⟩
  have⟨R,aJ,E,aw,t⟩:=Gb g.a b;rw[<-g.c]at E;injection E with E _ ax;subst E ax;have C:r.rangeAt R (k*38) (bQ x):=fun j u l=>(a.C (p:=⟨R,k*38+j,none⟩) aw).t (t j u l);have z:aj (r.alloc (.cells Q 58)) r 58 38 (fun _=> .int .u8 0):=aj.dq _ _ _ _ _ ae.y;have⟨G,o⟩:=eX (bQ x).toArray;have e:=dC a C z o (by rw[o,vQ]:G=J 38 (fk x)) b;have ay:=a.size;clear a C z o b t
  go_upto_region 4 with(first|(refine iI rfl 58 (.tmp 14) rfl R (k*38) rfl (bQ x) _ e.b th rfl (by rw[oD,lW]) ?_;rw[<-e.d])|(refine eP rfl 58 (.tmp 6) (.tmp 15) rfl r 0 38 38 58 _ (fk x) rfl (cg Value.agg e.e) e.c (dr rfl) oD (fun i _=>rfl) ?_;intro b o t))
  have af:=fJ t;have az:=o.congr fun i aA=>by unfold bm;rw[aq ⟨by omega,by omega⟩,ez]
  have o:=aD az (e.a.t (af.m ay)) af;go_wp2
  go_loopw [7,18] (fun s i W=>∃j,j<=m/\i= .int .i64 j/\s= .bool (decide (x∈M.take j))/\Below b b W) (fun _ i _=>m-(intOf i).toNat)
  case atStart=>exact⟨0,aQ _,rfl,by simp,aP _ _⟩
  obtain⟨j,aK,rfl,rfl,a⟩:=hrel;have⟨t,aB⟩:=eX wr;subst aB;have⟨f,C⟩:=eX (decide (x∈M.take j));rw[<-C];by_cases j<m
  .have aL:(j:Int)<m:=by omega
   obtain⟨y,T⟩:∃y,M[j]? =some y:=⟨_,aI (by have:=g.d;omega)⟩
   have⟨X,aM,F,lb,ag⟩:=Gb g.b T;rw[<-g.d]at F;injection F with F _ aC;subst F aC;have ah:=o.b.t (a.m o.b.size);have ai:t.rangeAt X (j*38) (bQ y):=fun q u l=>(ah.C (p:=⟨X,j*38+q,none⟩) lb).t (ag q u l);have z:aj (t.alloc (.cells Q 58)) t 58 38 (fun _=> .int .u8 0):=aj.dq _ _ _ _ _ ae.y;have⟨aa,I⟩:=eX (bQ y).toArray;have ak:aa=J 38 (fk y):=by rw[I,vQ]
   have⟨N,ab,al⟩:=Hn x y;have am:∀w,(binOp .eql 58 G aa).run prog w= .ok N w:=fun w=>by rw[e.d,I];exact(al w).1
   have an:decide (x∈M.take (j+1))=(f||N):=by
    rw[DJ T,C];by_cases ad:x∈M.take j
    .simp[ad]
    by_cases O:x=y
    .have:=ab.2 O;simp[ad,O,this]
    have:N=false:=by cases N;rfl;exact absurd (ab.1 rfl) O
    simp[ad,O,this]
   have b:=dH a ai z I ak an am;have ao:=a.size;clear a ah ai z I ak T ag ab al am an C
   go_upto_region 8 with(first|(refine iI rfl 58 (.tmp 20) rfl X (j*38) rfl (bQ y) _ b.b th rfl (by rw[oD,lW]) ?_;rw[<-b.d])|(refine eP rfl 58 (.tmp 9) (.tmp 21) rfl t 0 38 38 58 _ (fk y) rfl (cg Value.agg b.e) b.c (dr rfl) oD (fun i _=>rfl) ?_;intro z T ab))
   have I:=fJ ab;have ag:=T.congr fun i aA=>by unfold bm;rw[aq ⟨by omega,by omega⟩,ez]
   have T:=(o.a.Z b.a o.a.lt).Z I (aW o.a.lt ao);have ab:z.rangeAt t 0 ((List.range 38).map (fk y)):=by have:=ag.range 0 38 (by omega);simpa using this
   have ah:z.rangeAt r 0 ((List.range 38).map (fk x)):=by have:=T.range 0 38 (by omega);simpa using this
   have z:=aD ab ah (b.a.t (I.m ao));cases f with
   |true=>
    go_wp2;exact⟨⟨j+1,by omega,by go_num,by rw[b.f];rfl,z.C⟩,by simp[intOf];omega⟩
   |false=>
    have:=b.G
    go_wp2_with (first|(refine OQ rfl 58 (.tmp 6) rfl r 0 rfl ((List.range 38).map (fk x)) _ z.b th rfl (by rw[oD];simp) ?_;rw[show((List.range 38).map (fk x)).toArray=G from e.e.s])|(refine OQ rfl 58 (.tmp 9) rfl t 0 rfl ((List.range 38).map (fk y)) _ z.a th rfl (by rw[oD];simp) ?_;rw[show((List.range 38).map (fk y)).toArray=aa from b.e.s]))
    exact⟨⟨j+1,by omega,by go_num,by rw[b.f];rfl,z.C⟩,by simp[intOf];omega⟩
  obtain rfl:j=m:=by omega
  have:¬(j:Int)<j:=by omega
  obtain rfl:f=true:=by
   rw[C,sl (by have:=g.d;omega)];exact fB (g.E x (cB e.F))
  have b:=H (o.b.t (a.m o.b.size));clear a C;go_wp2;exact⟨⟨k+1,by omega,by go_num,b.y⟩,by simp[intOf];omega⟩
 obtain rfl:k=n:=by omega
 have:¬(k:Int)<k:=by omega
 have e:=H a;clear a;go_wp2;go_ret;exact⟨rfl,e.y⟩
end
abbrev St:Type:=Nat->UInt8
def Aa(s:St)(t r:Nat):UInt8:=s (9*t+1+r)
def zq(s:St)(l:Nat):UInt8:=s (36+l)
def X(s:St)(i:Nat):Value:= .int .u8 (Y (s i))
def ku(s:St):dg:=⟨(List.range 32).map (fun j=>Aa s (j/8) (j%8))++(List.range 6).map (zq s),by simp⟩
def dN:prog.underlying 80=some (.struct (prog.fieldsOf 80)):=by kernel_rfl
def cQ:(prog.info? 80).map (·.size)=some 142:=by kernel_rfl
def ql(w):(zeroValue 80).run prog w= .ok (J 142 (X fun _=>0)) w:=by kernel_rfl
def aeA(s)(j)(a:j<38):fk (ku s) j= .int .u8 (Y (if j<32 then Aa s (j/8) (j%8)else zq s (j-32))):=by
 unfold fk ku
 grind
section
def yF{a b:Type}[DecidableEq a](f:a->b)(k:a)(v:b):a->b:=fun i=>if i=k then v else f i
def Dv{κ α}[DecidableEq κ](f)(k:κ)(v:α):yF f k v k=v:=aq rfl
def CQ{κ α}[DecidableEq κ](f){i k:κ}(v:α)(h:i≠k):yF f k v i=f i:=O h
abbrev Pt:Type:=Nat×Nat
structure Am where
 es:Nat->List Ev
 I:Nat->List Nat
 co:Nat->List Pt
 src:Pt->Option Pt
 key:Pt->Nat
 now:Nat
namespace Am
def In(A:Am)(a:Pt):Prop:=a.2<(A.es a.1).length
def ev(A:Am)(a:Pt):Ev:=(A.es a.1).getD a.2 jN
def kd(A:Am)(a:Pt):UInt8:=(A.ev a).kind
def md(A:Am)(a:Pt):UInt8:=(A.ev a).mode
def lo(A:Am)(a:Pt):Nat:=(A.ev a).loc.toNat
def wv(A:Am)(i:Nat->UInt8)(l:Nat):Option Pt->UInt8
 |none=>i l
 |some a=>(A.ev a).val
def gE(A:Am)(t l:Nat):List Nat:=(A.I t).filter fun p=>A.lo (t,p)==l
def jV(A:Am)(l:Nat):Option Pt:=(A.co l).getLast?
def fD(A:Am)(t l:Nat):Option Pt:=match (A.gE t l).getLast? with
 |some p=>some (t,p)
 |none=>A.jV l
def nx(A:Am)(t:Nat):Pt:=(t,(A.es t).length)
def more(A:Am)(t:Nat)(e:Ev):Nat->List Ev:=P A.es t (A.es t++[e])
def rd(A:Am)(t:Nat)(e:Ev):Am:={A with es:=A.more t e,src:=yF A.src (A.nx t) (A.fD t e.loc.toNat),key:=yF A.key (A.nx t) (2*A.now),now:=A.now+1}
def wr(A:Am)(t:Nat)(e:Ev):Am:={A with es:=A.more t e,I:=P A.I t (A.I t++[(A.es t).length])}
def fe(A:Am)(t:Nat)(e:Ev):Am:={A with es:=A.more t e}
def put(A:Am)(t:Nat)(e:Ev):Am:={A with es:=A.more t e,co:=P A.co e.loc.toNat (A.co e.loc.toNat++[A.nx t]),key:=yF A.key (A.nx t) (2*A.now+1),now:=A.now+1}
def dr(A:Am)(t l p:Nat):Am:={A with I:=P A.I t ((A.I t).erase p),co:=P A.co l (A.co l++[(t,p)]),key:=yF A.key (t,p) (2*A.now+1),now:=A.now+1}
def D(A:Am)(a:Pt):Prop:=a∈A.co (A.lo a)
def B(A:Am)(a:Pt):Prop:=a.2∈A.I a.1
def K(A:Am)(a:Pt):Prop:=A.kd a=1\/A.kd a=2/\A.D a
def ze(A:Am)(b a:Pt):Prop:=A.D b/\A.D a/\A.key b<A.key a\/A.D b/\A.B a\/A.B b/\A.B a/\b.1=a.1/\b.2<a.2
def Le(A:Am)(b:Pt)(s:Option Pt):Prop:=∃a,s=some a/\(b=a\/A.ze b a)
def td(A:Am)(m:UInt8)(a b:Pt):Prop:=∃f,a.2<f/\f<b.2/\A.kd (a.1,f)=3/\A.md (a.1,f)=m
def Kp(A:Am)(a b:Pt):Prop:=A.kd a=1\/A.md a=3\/A.md b=3\/A.td 3 a b\/A.kd b=2/\(A.lo a=A.lo b\/A.td 5 a b)
structure Src(A:Am)(i:Nat->UInt8)(r:Pt):Prop where
 val:(A.ev r).val=A.wv i (A.lo r) (A.src r)
 at_:∀a,A.src r=some a->A.In a/\A.kd a=2/\A.lo a=A.lo r/\(A.D a/\A.key a<A.key r\/a.1=r.1/\a.2<r.2)
 bZ:∀b,A.In b->A.kd b=2->A.lo b=A.lo r->A.D b->A.key b<A.key r->A.Le b (A.src r)
 own:∀q,q<r.2->A.kd (r.1,q)=2->A.lo (r.1,q)=A.lo r->A.Le (r.1,q) (A.src r)
structure Inv(i:Nat->UInt8)(A:Am):Prop where
 bin:∀a,A.B a->A.In a/\A.kd a=2/\A.md a≠3
 ug:∀t,(A.I t).Pairwise (·<·)
 cin:∀l a,a∈A.co l->A.In a/\A.kd a=2/\A.lo a=l/\¬A.B a/\A.key a<2*A.now/\A.key a%2=1
 jb:∀l,(A.co l).Pairwise fun a b=>A.key a<A.key b
 wall:∀a,A.In a->A.kd a=2->A.B a\/A.D a
 wG:∀a,A.In a->A.kd a=1->A.key a<2*A.now/\A.key a%2=0
 inj:∀a b,A.In a->A.In b->A.K a->A.K b->A.key a/2=A.key b/2->a=b
 fb:∀t p f,p∈A.I t->p<f->f<(A.es t).length->A.md (t,f)≠3/\(A.kd (t,f)=3->A.md (t,f)≠5)
 kp:∀t p q,p<q->q<(A.es t).length->A.kd (t,p)=1\/A.kd (t,p)=2->A.K (t,q)->A.Kp (t,p) (t,q)->A.K (t,p)/\A.key (t,p)<A.key (t,q)
 at_:∀a,A.In a->A.kd a=2->A.md a=3->1<=a.2/\A.kd (a.1,a.2-1)=1/\A.key a=A.key (a.1,a.2-1)+3
 src:∀r,A.In r->A.kd r=1->Src A i r
inductive Mv(i:Nat->UInt8)(A:Am):Am->Prop
 |rd {t:Nat} {e:Ev} (hk:e.kind=1) (hv:e.val=A.wv i e.loc.toNat (A.fD t e.loc.toNat)) (hm:e.mode=3->A.I t=[]):Mv i A (A.rd t e)
 |wr {t:Nat} {e:Ev} (hk:e.kind=2) (hm:e.mode≠3):Mv i A (A.wr t e)
 |fe {t:Nat} {e:Ev} (hk:e.kind=3) (hm:e.mode=3\/e.mode=5->A.I t=[]):Mv i A (A.fe t e)
 |put {t:Nat} {e:Ev} (hk:e.kind=2) (hb:A.I t=[]) (h1:1<=(A.es t).length) (h2:A.kd (t,(A.es t).length-1)=1) (h3:A.key (t,(A.es t).length-1)+2=2*A.now):Mv i A (A.put t e)
 |dr {t l p:Nat} (hp:(A.gE t l).head?=some p):Mv i A (A.dr t l p)
section
variable{i:Nat->UInt8}{A:Am}{t:Nat}{e:Ev}
def BB{A':Am}(b:A'.es=A.more t e){a}(h:A.In a):A'.ev a=A.ev a:=by
 unfold ev In more at*
 rw[b];unfold P
 grind
def xK{A':Am}(a:A'.es=A.more t e):A'.ev (A.nx t)=e:=by
 unfold ev nx more at*
 rw[a];unfold P;simp
def nt{A':Am}(b:A'.es=A.more t e)(a):A'.In a↔A.In a\/a=A.nx t:=by
 unfold In nx more at*
 rw[b];unfold P
 grind
def sm:¬A.In (A.nx t):=by unfold In nx;simp
def yV{a}(h:A.In a):a≠A.nx t:=fun e=>sm (e▸h)
end
end Am
end
section
namespace Am
variable{i:Nat->UInt8}{A A':Am}{t:Nat}{e:Ev}
structure mz(A A':Am)(t:Nat)(e:Ev):Prop where
 es:A'.es=A.more t e
 b:∀a,A.In a->(A'.B a↔A.B a)
 co:∀l a,A.In a->(a∈A'.co l↔a∈A.co l)
 key:∀a,A.In a->A'.key a=A.key a
 src:∀a,A.In a->A'.src a=A.src a
namespace mz
def ev(h:mz A A' t e){a}(b:A.In a):A'.ev a=A.ev a:=BB h.es b
def kd(h:mz A A' t e){a}(b:A.In a):A'.kd a=A.kd a:=by unfold Am.kd;rw[h.ev b]
def md(h:mz A A' t e){a}(b:A.In a):A'.md a=A.md a:=by unfold Am.md;rw[h.ev b]
def lo(h:mz A A' t e){a}(b:A.In a):A'.lo a=A.lo a:=by unfold Am.lo;rw[h.ev b]
def d(h:mz A A' t e){a}(b:A.In a):A'.D a↔A.D a:=by unfold Am.D;rw[h.lo b,h.co _ _ b]
def k(h:mz A A' t e){a}(b:A.In a):A'.K a↔A.K a:=by unfold Am.K;rw[h.kd b,h.d b]
def EK(h:mz A A' t e){a b}(c:A.In a)(f:A.In b):A'.ze b a↔A.ze b a:=by unfold Am.ze;rw[h.d c,h.d f,h.b _ c,h.b _ f,h.key _ c,h.key _ f]
def xT(h:mz A A' t e){m}{a b}(o:b.2<=(A.es a.1).length):A'.td m a b↔A.td m a b:=by
 constructor
 .rintro⟨f,j,c,l,n⟩;have g:A.In (a.1,f):=aW c o;exact⟨f,j,c,h.kd g▸l,h.md g▸n⟩
 rintro⟨f,j,c,l,n⟩;have g:A.In (a.1,f):=aW c o;exact⟨f,j,c,(h.kd g).t l,(h.md g).t n⟩
end mz
def D.kd(f:Inv i A){a}(h:A.D a):A.kd a=2:=(f.cin _ _ h).2.1
def Inv.xc(f:Inv i A){a}(g:A.In a)(h:A.K a):A.key a<2*A.now:=by
 obtain h|⟨_,h⟩:=h
 .exact(f.wG a g h).1
 exact(f.cin _ _ h).2.2.2.2.1
def mz.inv(h:mz A A' t e)(C:Inv i A)(aJ:A.now<=A'.now)
 (ao:A'.B (A.nx t)->e.kind=2/\e.mode≠3)(ob:∀a,A'.B a->A.In a\/a=A.nx t)(g:∀u,(A'.I u).Pairwise (·<·))
 (ap:∀l,A.nx t∈A'.co l->e.kind=2/\e.loc.toNat=l/\¬A'.B (A.nx t)/\A'.key (A.nx t)<2*A'.now/\A'.key (A.nx t)%2=1)
 (aq:∀l a,a∈A'.co l->A.In a\/a=A.nx t)(o:∀l,(A'.co l).Pairwise fun a b=>A'.key a<A'.key b)
 (aK:e.kind=2->A'.B (A.nx t)\/A.nx t∈A'.co e.loc.toNat)(aL:e.kind=1->A'.key (A.nx t)<2*A'.now/\A'.key (A.nx t)%2=0)
 (M:A'.K (A.nx t)->2*A.now<=A'.key (A.nx t))(ar:∀p∈A.I t,e.mode≠3/\(e.kind=3->e.mode≠5))
 (aM:e.kind=2->A'.K (A.nx t)->A.I t=[])
 (au:e.kind=2->e.mode=3->1<=(A.es t).length/\A.kd (t,(A.es t).length-1)=1/\A'.key (A.nx t)=A.key (t,(A.es t).length-1)+3)
 (aN:e.kind=1->Src A' i (A.nx t)):Inv i A':=by
 have R:=xK h.es;have N:A'.kd (A.nx t)=e.kind:=by unfold Am.kd;rw[R]
 have ae:A'.md (A.nx t)=e.mode:=by unfold Am.md;rw[R]
 have aw:A'.lo (A.nx t)=e.loc.toNat:=by unfold Am.lo;rw[R]
 refine⟨?_,g,?_,o,?_,?_,?_,?_,?_,?_,?_⟩
 .intro a E;obtain hi|rfl:=ob a E
  .have⟨o,w,H⟩:=C.bin a ((h.b a hi).1 E);exact⟨(nt h.es a).2 (.inl hi),(h.kd hi).t w,by rw[h.md hi];exact H⟩
  exact⟨(nt h.es _).2 (.inr rfl),N.t (ao E).1,by grind⟩
 .intro l a E;obtain hi|rfl:=aq l a E
  .have⟨o,w,H,L,af,ax⟩:=C.cin l a ((h.co l a hi).1 E);exact⟨(nt h.es a).2 (.inl hi),(h.kd hi).t w,(h.lo hi).t H,fun J=>L ((h.b a hi).1 J),by rw[h.key a hi];omega,by rw[h.key a hi];exact ax⟩
  have⟨o,w,H,L,af⟩:=ap l E;exact⟨(nt h.es _).2 (.inr rfl),N.t o,aw.t w,H,L,af⟩
 .intro a E I;obtain hi|rfl:=(nt h.es a).1 E
  .rw[h.b a hi,h.d hi];exact C.wall a hi (h.kd hi▸I)
  unfold Am.D
  grind
 .intro a E I;obtain hi|rfl:=(nt h.es a).1 E
  .have⟨o,w⟩:=C.wG a hi (h.kd hi▸I);rw[h.key a hi];omega
  grind
 .intro a b E J T W O;obtain hi|rfl:=(nt h.es a).1 E<;>obtain y|rfl:=(nt h.es b).1 J
  .rw[h.key a hi,h.key b y]at O;exact C.inj a b hi y ((h.k hi).1 T) ((h.k y).1 W) O
  .have o:=C.xc hi ((h.k hi).1 T);have w:=M W;rw[h.key a hi]at O;omega
  .have o:=C.xc y ((h.k y).1 W);have w:=M T;rw[h.key b y]at O;omega
  rfl
 .intro u p f ay X az;have ag:=ay;obtain hi|hi:=(nt h.es (u,f)).1 az
  .have g:A.In (u,p):=lZ X hi;have⟨o,w⟩:=C.fb u p f ((h.b _ g).1 ag) X hi;rw[h.md hi,h.kd hi]
   grind
  obtain⟨rfl,rfl⟩:=yD hi;have g:A.In (u,p):=X;have:=ar p ((h.b _ g).1 ag)
  grind
 .intro u p q aa P Q ah F;obtain hi|hi:=(nt h.es (u,q)).1 P
  .have g:A.In (u,p):=lZ aa hi;rw[h.kd g]at Q;have aA:A.Kp (u,p) (u,q):=by
    unfold Am.Kp at F⊢;rw[h.kd g,h.md g,h.md hi,h.xT (a:=(u,p)) (b:=(u,q)) (nu hi),h.kd hi,h.lo g,h.lo hi,h.xT (a:=(u,p)) (b:=(u,q)) (nu hi)]at F;exact F
   have⟨o,w⟩:=C.kp u p q aa hi Q ((h.k hi).1 ah) aA;rw[h.k g,h.key _ g,h.key _ hi]
   grind
  obtain⟨rfl,rfl⟩:=yD hi;have g:A.In (u,p):=aa;rw[show((u,(A.es u).length):Pt)=A.nx u from rfl]at*
  have aO:=M ah;rw[h.k g,h.key _ g];rw[h.kd g]at Q;have I:A.K (u,p):=by
   obtain o|o:=Q
   .exact .inl o
   obtain J|aB:=C.wall _ g o
   .exfalso;have aC:p∈A.I u:=J;unfold Am.Kp at F;rw[h.kd g,h.md g,ae,N,h.xT (a:=(u,p)) (b:=A.nx u) (av _),h.xT (a:=(u,p)) (b:=A.nx u) (av _)]at F;obtain F|F|F|F|F:=F
    .grind
    .exact(C.bin _ J).2.2 F
    .grind
    .obtain⟨f,f1,f2,f3,f4⟩:=F;exact(C.fb u p f aC f1 f2).1 f4
    grind
   exact .inr ⟨o,aB⟩
  exact⟨I,by have:=C.xc g I;omega⟩
 .intro a E I ai;obtain hi|rfl:=(nt h.es a).1 E
  .have⟨o,w,H⟩:=C.at_ a hi (h.kd hi▸I) (h.md hi▸ai)
   have g:A.In (a.1,a.2-1):=by have hi:a.2<(A.es a.1).length:=hi;show a.2-1<(A.es a.1).length;omega
   exact⟨o,(h.kd g).t w,by rw[h.key a hi,h.key _ g];exact H⟩
  have⟨o,w,H⟩:=au (N▸I) (ae▸ai);have g:A.In (t,(A.es t).length-1):=by show(A.es t).length-1<(A.es t).length;omega
  exact⟨o,(h.kd g).t w,by rw[H,<-h.key _ g];rfl⟩
 intro r aD I;obtain hi|rfl:=(nt h.es r).1 aD
 .have aj:=h.kd hi▸I;have⟨aE,ad,aF,aG⟩:=C.src r hi aj;have ak:∀b,A.In b->A.Le b (A.src r)->A'.Le b (A'.src r):=by
   rintro b J ⟨a,e1,w⟩;refine⟨a,by rw[h.src r hi,e1],?_⟩;obtain rfl|w:=w
   .grind
   exact .inr ((h.EK (ad a e1).1 J).2 w)
  refine⟨?_,?_,?_,?_⟩
  .rw[h.ev hi,h.lo hi,h.src r hi,aE];cases e1:A.src r with
   |none=>rfl
   |some a=>show(A.ev a).val=(A'.ev a).val;rw[h.ev (ad a e1).1]
  .intro a e1;rw[h.src r hi]at e1;have⟨o,w,H,L⟩:=ad a e1;rw[h.kd o,h.lo o,h.lo hi,h.d o,h.key a o,h.key r hi];exact⟨(nt h.es a).2 (.inl o),w,H,L⟩
  .intro b J al aH am an;obtain y|rfl:=(nt h.es b).1 J
   .exact ak b y (aF b y (h.kd y▸al) (by rw[<-h.lo y,aH,h.lo hi]) ((h.d y).1 am) (by rw[<-h.key b y,<-h.key r hi];exact an))
   exfalso;have:=M (.inr ⟨al,am⟩);have:=(C.wG r hi aj).1;rw[h.key r hi]at an;omega
  intro q P J aI;have y:A.In (r.1,q):=lZ P hi;exact ak _ y (aG q P (h.kd y▸J) (by rw[<-h.lo y,aI,h.lo hi]))
 grind
end Am
end
section
def Ah{f:Type}{R}:∀{l:List f}{a:f},l.Pairwise R->l.getLast?=some a->∀b∈l,b=a\/R b a
 |[],_,_,h,_,_=>by cases h
 |x::xs,a,g,h,b,c=>by
  have⟨m,j⟩:=lU.1 g;cases xs with
  |nil=>
   grind
  |cons y ys=>
   obtain rfl|c:=fI.1 c
   .grind
   exact Ah j h b c
def Tz{c:Type}{R}{l:List c}{a:c}(f:l.Pairwise R)(h:l.head?=some a):∀b∈l,b=a\/R a b:=by
 cases l with
 |nil=>cases h
 |cons x xs=>
  simp_all
namespace Am
variable{i:Nat->UInt8}{A A':Am}{t:Nat}{e:Ev}
def l7{l p}:p∈A.gE t l↔p∈A.I t/\A.lo (t,p)=l:=by unfold gE;rw[nE];simp
def Inv.GV(f:Inv i A)(l):(A.gE t l).Pairwise (·<·):=(f.ug t).sublist BW
def Jz{k k':Pt->Nat}{l:List Pt}(h:l.Pairwise fun a b=>k a<k b)(c:∀a∈l,k' a=k a):l.Pairwise fun a b=>k' a<k' b:=
 h.imp_of_mem fun{a b} c f h=>by grind
def ij{u:UInt8}{P:Prop}(h:u=1)(a:u=2):P:=by grind
def xa{u:UInt8}{P:Prop}(h:u=1)(a:u=3):P:=by grind
def wP{u:UInt8}{P:Prop}(h:u=2)(a:u=3):P:=by grind
def Inv.fD(o:Inv i A)(l):(∀a,A.fD t l=some a->A.In a/\A.kd a=2/\A.lo a=l/\(A.D a/\A.key a<2*A.now\/a.1=t/\A.B a))/\
 (∀b,A.In b->A.lo b=l->A.D b->A.Le b (A.fD t l))/\∀q,A.B (t,q)->A.lo (t,q)=l->A.Le (t,q) (A.fD t l):=by
 unfold Am.fD;cases E:(A.gE t l).getLast? with
 |some p=>
  have⟨J,M⟩:=l7.1 (rT E);have w:A.B (t,p):=J;have⟨F,H,_⟩:=o.bin _ w;refine⟨fun a r=>?_,fun b g y f=>⟨(t,p),rfl,.inr (.inr (.inl ⟨f,w⟩))⟩,fun q u C=>⟨(t,p),rfl,?_⟩⟩
  .grind
  obtain rfl|h:=Ah (o.GV l) E q (l7.2 ⟨u,C⟩)
  .grind
  exact .inr (.inr (.inr ⟨u,w,rfl,h⟩))
 |none=>
  refine⟨fun a r=>?_,fun b g y f=>?_,fun q u C=>?_⟩
  .have g:=rT (l:=A.co l) r;have⟨F,H,I,N,L,O⟩:=o.cin l a g;exact⟨F,H,I,.inl ⟨by unfold Am.D;rw[I];exact g,L⟩⟩
  .unfold Am.D at f;rw[y]at f;cases g:(A.co l).getLast? with
   |none=>rw[Eu.1 g]at f;cases f
   |some a=>
    refine⟨a,g,?_⟩;obtain rfl|h:=Ah (o.jb l) g b f
    .grind
    have r:=rT g;exact .inr (.inl ⟨by unfold Am.D;rw[y];exact f,by unfold Am.D;rw[((o.cin l a r).2.2.1)];exact r,h⟩)
  have:=l7.2 ⟨u,C⟩
  grind
def Bq(g:Inv i A)(o:e.kind=1)(C:e.val=A.wv i e.loc.toNat (A.fD t e.loc.toNat))(P:e.mode=3->A.I t=[]):Inv i (A.rd t e):=by
 have c:mz A (A.rd t e) t e:=⟨rfl,fun _ _=>nY,fun _ _ _=>nY,fun a f=>CQ _ _ (yV f),fun a f=>CQ _ _ (yV f)⟩
 have u:(A.rd t e).key (A.nx t)=2*A.now:=Dv _ _ _;refine c.inv g (tP _) (fun h=>absurd (g.bin _ h).1 sm) (fun a h=> .inl (g.bin a h).1) g.ug (fun l h=>absurd (g.cin l _ h).1 sm) (fun l a h=> .inl (g.cin l a h).1)
  (fun l=>Jz (g.jb l) fun a f=>CQ _ _ (yV (g.cin l a f).1)) (ij o) (fun _=>by rw[u];exact⟨by show _<2*(A.now+1);omega,by omega⟩) (fun _=>nJ u.s)
  (fun p f=>⟨fun h=>by grind,xa o⟩) (ij o) (ij o) fun _=>?_
 have⟨v,y,E⟩:=g.fD (t:=t) e.loc.toNat;have sn:(A.rd t e).src (A.nx t)=A.fD t e.loc.toNat:=Dv _ _ _;have z:=xK (A:=A) (A':=A.rd t e) (t:=t) rfl;have r:(A.rd t e).lo (A.nx t)=e.loc.toNat:=by unfold lo;rw[z]
 have w:∀b,A.In b->A.Le b (A.fD t e.loc.toNat)->(A.rd t e).Le b ((A.rd t e).src (A.nx t)):=by
  rintro b x ⟨a,e1,m⟩;refine⟨a,by rw[sn,e1],?_⟩;obtain rfl|m:=m
  .grind
  exact .inr ((c.EK (v a e1).1 x).2 m)
 refine⟨?_,?_,?_,?_⟩
 .rw[z,r,sn,C];cases e1:A.fD t e.loc.toNat with
  |none=>rfl
  |some a=>show(A.ev a).val=((A.rd t e).ev a).val;rw[c.ev (v a e1).1]
 .intro a e1;rw[sn]at e1;have⟨j,m,F,n⟩:=v a e1;rw[c.kd j,c.lo j,r,c.d j,c.key a j,u];refine⟨(nt c.es a).2 (.inl j),m,F,?_⟩;obtain n|⟨n,_⟩:=n
  .grind
  refine .inr ⟨n,?_⟩;obtain⟨H,Q⟩:=a;obtain rfl:H=t:=n;exact j
 .intro b x R I J T;obtain f|rfl:=(nt c.es b).1 x
  .exact w b f (y b f (by rw[<-c.lo f,I,r]) ((c.d f).1 J))
  omega
 intro q L M s;have f:A.In (t,q):=L;have s:A.lo (t,q)=e.loc.toNat:=by rw[<-c.lo f,<-r];exact s
 obtain N|O:=g.wall _ f (c.kd f▸M)
 .exact w _ f (E q N s)
 exact w _ f (y _ f s O)
def Nl(c:Inv i A)(g:e.kind=2)(j:e.mode≠3):Inv i (A.wr t e):=by
 have m:∀a,(A.wr t e).B a↔A.B a\/a=A.nx t:=by
  rintro⟨u,p⟩;show p∈P A.I t (A.I t++[(A.es t).length]) u↔p∈A.I u\/((u,p):Pt)=(t,(A.es t).length)
  unfold P
  grind
 have q:mz A (A.wr t e) t e:=⟨rfl,fun a f=>by rw[m];simp[yV f],fun _ _ _=>nY,fun a f=>rfl,fun a f=>rfl⟩
 have n:¬(A.wr t e).K (A.nx t):=by
  rintro(h|⟨_,h⟩)
  .rw[show(A.wr t e).kd (A.nx t)=e.kind by unfold kd;rw[(xK (A:=A) (A':=A.wr t e) (t:=t) rfl)]]at h
   grind
  exact sm (c.cin _ _ h).1
 refine q.inv c (av _) (fun _=>⟨g,j⟩) (fun a h=>((m a).1 h).imp_left fun h=>(c.bin a h).1) (fun u=>?_) (fun l h=>absurd (c.cin l _ h).1 sm) (fun l a h=> .inl (c.cin l a h).1)
  (fun l=>c.jb l) (fun _=> .inl ((m _).2 (.inr rfl))) (fun h=>ij h g) (fun h=>absurd h n) (fun p _=>⟨j,wP g⟩) (fun _ h=>absurd h n) (fun _ h=>absurd h j) (fun h=>ij h g)
 show(P A.I t (A.I t++[(A.es t).length]) u).Pairwise (·<·);unfold P;by_cases o:u=t
 .rw[aq o];refine Fu.2 ⟨c.ug t,by simp,fun a f b r=>?_⟩;obtain rfl:b=(A.es t).length:=by grind
  exact(c.bin (t,a) f).1
 rw[O o];exact c.ug u
def Sf(b:Inv i A)(c:e.kind=3)(m:e.mode=3\/e.mode=5->A.I t=[]):Inv i (A.fe t e):=by
 have g:mz A (A.fe t e) t e:=⟨rfl,fun a f=>nY,fun _ _ _=>nY,fun a f=>rfl,fun a f=>rfl⟩
 have j:¬(A.fe t e).K (A.nx t):=by
  have f:=xK (A:=A) (A':=A.fe t e) (t:=t) rfl;rintro(h|⟨h,_⟩)
  .rw[show(A.fe t e).kd (A.nx t)=e.kind by unfold kd;rw[f]]at h
   grind
  rw[show(A.fe t e).kd (A.nx t)=e.kind by unfold kd;rw[f]]at h
  grind
 exact g.inv b (av _) (fun h=>absurd (b.bin _ h).1 sm) (fun a h=> .inl (b.bin a h).1) b.ug (fun l h=>absurd (b.cin l _ h).1 sm) (fun l a h=> .inl (b.cin l a h).1)
  b.jb (fun h=>wP h c) (fun h=>xa h c) (fun h=>absurd h j) (fun p n=>⟨fun h=>by grind,fun _ h=>by grind⟩) (fun h=>wP h c) (fun h=>wP h c) (fun h=>xa h c)
def Gw{k:Pt->Nat}{l}{a}(h:l.Pairwise fun a b=>k a<k b)(f:∀b∈l,k b<k a):(l++[a]).Pairwise fun a b=>k a<k b:=
 Fu.2 ⟨h,by simp,fun b f c g=>by grind⟩
def QM(c:Inv i A)(m:e.kind=2)(g:A.I t=[])(o:1<=(A.es t).length)(q:A.kd (t,(A.es t).length-1)=1)(u:A.key (t,(A.es t).length-1)+2=2*A.now):Inv i (A.put t e):=by
 have j:∀l a,a∈(A.put t e).co l↔a∈A.co l\/l=e.loc.toNat/\a=A.nx t:=by
  intro l a;show a∈P A.co e.loc.toNat (A.co e.loc.toNat++[A.nx t]) l↔_;unfold P
  grind
 have n:mz A (A.put t e) t e:=⟨rfl,fun a f=>nY,fun l a f=>by rw[j];simp[yV f],fun a f=>CQ _ _ (yV f),fun a f=>rfl⟩
 have r:(A.put t e).key (A.nx t)=2*A.now+1:=Dv _ _ _;refine n.inv c (tP _) (fun h=>absurd (c.bin _ h).1 sm) (fun a h=> .inl (c.bin a h).1) c.ug (fun l h=>?_) (fun l a h=>((j l a).1 h).imp (fun h=>(c.cin l a h).1) (·.2))
  (fun l=>?_) (fun _=> .inr ((j _ _).2 (.inr ⟨rfl,rfl⟩))) (fun h=>ij h m) (fun _=>by omega) (fun p s=>by grind) (fun _ _=>g) (fun _ _=>⟨o,q,by omega⟩) (fun h=>ij h m)
 .obtain h|⟨h,_⟩:=(j _ _).1 h
  .exact absurd (c.cin l _ h).1 sm
  exact⟨m,h.s,fun h=>sm (c.bin _ h).1,by show _<2*(A.now+1);omega,by omega⟩
 have s:=Jz (c.jb l) fun a f=>n.key a (c.cin l a f).1;show(P A.co e.loc.toNat (A.co e.loc.toNat++[A.nx t]) l).Pairwise _;unfold P;by_cases f:l=e.loc.toNat
 .subst f;rw[aq rfl];refine Gw s fun b g=>?_;have:=(c.cin _ b g).2.2.2.2.1;rw[n.key b (c.cin _ b g).1,r];omega
 grind
def NB{l p}(g:Inv i A)(aw:(A.gE t l).head?=some p):Inv i (A.dr t l p):=by
 have⟨aM,aN⟩:=l7.1 (F9 (by rw[aw];rfl):p∈A.gE t l);have ax:∀q,q∈A.I t->A.lo (t,q)=l->q=p\/p<q:=fun q j c=>Tz (g.GV l) aw q (l7.2 ⟨j,c⟩);have⟨w,C⟩:=eX ((t,p):Pt);have ay:A.B w:=C▸aM;have⟨aO,ag,az⟩:=g.bin w ay;have ah:=C▸aN;have aA:¬A.D w:=fun h=>(g.cin _ _ h).2.2.2.1 ay;have⟨A',z⟩:=eX (A.dr t l p);rw[<-z];have ad:A'.ev=A.ev:=by rw[z];rfl
 have v:A'.kd=A.kd:=by unfold kd;rw[ad]
 have ae:A'.md=A.md:=by unfold md;rw[ad]
 have I:A'.lo=A.lo:=by unfold lo;rw[ad]
 have E:A'.In=A.In:=by rw[z];rfl
 have aB:A'.now=A.now+1:=by rw[z];rfl
 have al:A'.src=A.src:=by rw[z];rfl
 have aC:A'.es=A.es:=by rw[z];rfl
 have aP:A'.td=A.td:=by unfold td;rw[v,ae]
 have aQ:A'.Kp=A.Kp:=by unfold Kp;rw[v,ae,I,aP]
 have aR:A'.wv=A.wv:=by funext i l s;cases s<;>simp only[wv,ad]
 have N:∀a,A'.B a↔A.B a/\a≠w:=by
  rintro⟨u,q⟩;rw[z,C];show q∈P A.I t ((A.I t).erase p) u↔q∈A.I u/\_;unfold P;by_cases am:u=t
  .subst am;rw[aq rfl,List.Nodup.mem_erase_iff ((g.ug u).imp fun h=>xp h)];constructor
   .rintro⟨j,c⟩;exact⟨c,fun e=>j (yD e).2⟩
   rintro⟨j,c⟩;exact⟨fun e=>c (by rw[e]),j⟩
  rw[O am];simp[am]
 have aD:∀k a,a∈A'.co k↔a∈A.co k\/k=l/\a=w:=by
  intro k a;rw[z,C];show a∈P A.co l (A.co l++[(t,p)]) k↔_;unfold P;by_cases Q:k=l
  .subst Q;rw[aq rfl];simp
  rw[O Q];simp[Q]
 have R:∀a,A'.D a↔A.D a\/a=w:=by
  intro a;unfold D;rw[I,aD];constructor
  .rintro(h|⟨_,h⟩)
   .exact .inl h
   exact .inr h
  rintro(h|rfl)
  .exact .inl h
  exact .inr ⟨ah,rfl⟩
 have k':∀a,A'.K a↔A.K a\/a=w:=by
  intro a;unfold K;rw[v,R];constructor
  .rintro(h|⟨h,c|c⟩)
   .exact .inl (.inl h)
   .exact .inl (.inr ⟨h,c⟩)
   exact .inr c
  rintro((h|⟨h,c⟩)|rfl)
  .exact .inl h
  .exact .inr ⟨h,.inl c⟩
  exact .inr ⟨ag,.inr rfl⟩
 have n:∀a,a≠w->A'.key a=A.key a:=fun a h=>by rw[z];exact CQ _ _ (C▸h)
 have T:A'.key w=2*A.now+1:=by rw[z,C];exact Dv _ _ _
 have aS:¬A.K w:=fun h=>h.elim (fun h=>ij h ag) fun h=>aA h.2;have J:∀a,A.K a->a≠w:=fun a h e=>aS (e▸h);have H:∀a,A.D a->a≠w:=fun a h e=>aA (e▸h);have ai:∀a,A.kd a=1->a≠w:=fun a h e=>ij h (e▸ag);refine⟨?_,?_,?_,?_,?_,?_,?_,?_,?_,?_,?_⟩
 .intro a o;rw[E,v,ae];exact g.bin a ((N a).1 o).1
 .intro u;rw[z];show(P A.I t ((A.I t).erase p) u).Pairwise (·<·);unfold P;split
  .exact(g.ug t).sublist List.erase_sublist
  exact g.ug u
 .intro k a o;rw[E,v,I,aB,N];obtain h|⟨rfl,rfl⟩:=(aD k a).1 o
  .have⟨j,c,y,F,L,aT⟩:=g.cin k a h;have aU:A.D a:=by unfold D;rw[y];exact h
   rw[n a (H a aU)];exact⟨j,c,y,fun m=>F m.1,by omega,aT⟩
  rw[T];exact⟨aO,ag,ah,fun m=>m.2 rfl,by omega,by omega⟩
 .intro k;have aE:=Jz (g.jb k) fun a o=>n a (H a (by unfold D;rw[(g.cin k a o).2.2.1];exact o));have e1:A'.co k=if k=l then A.co k++[w]else A.co k:=by
   rw[z,C];show P A.co l (A.co l++[(t,p)]) k=_;unfold P;by_cases Q:k=l
   .subst Q;simp
   simp[Q]
  rw[e1];split
  .refine Gw aE fun b m=>?_;have L:=(g.cin _ b m).2.2.2.2.1;rw[n b (H b (by unfold D;rw[(g.cin k b m).2.2.1];exact m)),T];omega
  exact aE
 .intro a o x;rw[E]at o;rw[v]at x;rw[N,R];by_cases e:a=w
  .exact .inr (.inr e)
  exact(g.wall a o x).imp (fun h=>⟨h,e⟩) .inl
 .intro a o x;rw[E]at o;rw[v]at x;have⟨j,c⟩:=g.wG a o x;rw[n a (ai a x),aB];exact⟨by omega,c⟩
 .intro a b o m W X aj;rw[E]at o m;obtain W|rfl:=(k' a).1 W<;>obtain X|rfl:=(k' b).1 X
  .rw[n a (J a W),n b (J b X)]at aj;exact g.inj a b o m W X aj
  .have:=g.xc o W;rw[n a (J a W),T]at aj;omega
  .have:=g.xc m X;rw[n b (J b X),T]at aj;omega
  rfl
 .intro u q f M aV aF;rw[aC]at aF;rw[ae,v];exact g.fb u q f ((N (u,q)).1 M).1 aV aF
 .intro u q s aG af aa ks an;rw[aC]at af;rw[v]at aa;rw[aQ]at an;have aH:A.In (u,q):=lZ aG af;obtain ks|e:=(k' (u,s)).1 ks
  .have⟨j,c⟩:=g.kp u q s aG af aa ks an;rw[n _ (J _ j),n _ (J _ ks)];exact⟨(k' _).2 (.inl j),c⟩
  have M:A.K (u,q):=by
   obtain h|h:=aa
   .exact .inl h
   obtain m|ak:=g.wall _ aH h
   .exfalso;obtain⟨rfl,rfl⟩:=yD (e.t C);obtain j|j|j|⟨f,f1,f2,f3,f4⟩|⟨j,c|⟨f,f1,f2,f3,f4⟩⟩:=an
    .exact ij j h
    .exact(g.bin _ m).2.2 j
    .rw[e]at j;exact az j
    .exact(g.fb _ q f m f1 (lZ f2 af)).1 f4
    .obtain h|h:=ax q m (by rw[c,e,ah])<;>omega
    exact(g.fb _ q f m f1 (lZ f2 af)).2 f3 f4
   exact .inr ⟨h,ak⟩
  have:=g.xc aH M;rw[n _ (J _ M),e,T];exact⟨(k' _).2 (.inl M),by omega⟩
 .intro a o x ao;rw[E]at o;rw[v]at x;rw[ae]at ao;have:a≠w:=fun e=>az (e▸ao);have⟨j,c,y⟩:=g.at_ a o x ao
  rw[v,n a this,n _ (ai _ c)];exact⟨j,c,y⟩
 intro r ap x;rw[E]at ap;rw[v]at x;have⟨aW,aI,aX,aY⟩:=g.src r ap x;have:=(g.wG r ap x).1;have aJ:∀b,A.lo b=A.lo r->A.Le b (A.src r)->A'.Le b (A'.src r):=by
  rintro b m ⟨a,e1,c⟩;refine⟨a,by rw[al,e1],?_⟩;obtain rfl|c:=c
  .exact .inl rfl
  right;have aZ:=(aI a e1).2.2.1;unfold ze at c⊢;rw[R,R,N,N];obtain⟨c,y,F⟩|⟨c,y⟩|⟨c,y,F,L⟩:=c
  .rw[n b (H b c),n a (H a y)];exact .inl ⟨.inl c,.inl y,F⟩
  .by_cases ab:a=w
   .subst ab;refine .inl ⟨.inl c,.inr rfl,?_⟩;have:=(g.cin _ b c).2.2.2.2.1;rw[n b (H b c),T];omega
   exact .inr (.inl ⟨.inl c,y,ab⟩)
  by_cases aK:b=w
  .subst aK;refine .inr (.inl ⟨.inr rfl,y,fun e=>?_⟩);rw[e]at L;omega
  by_cases ab:a=w
  .obtain⟨a0,ar⟩:=b;rw[ab,C]at F L;obtain rfl:a0=t:=F;obtain h|h:=ax ar c (by rw[m,<-aZ,ab,ah])
   .exact absurd L (by show¬ar<p;omega)
   exact absurd L (by show¬ar<p;omega)
  exact .inr (.inr ⟨⟨c,aK⟩,⟨y,ab⟩,F,L⟩)
 refine⟨by rw[ad,aR,I,al];exact aW,?_,?_,?_⟩
 .intro a e1;rw[al]at e1;have⟨j,c,y,F⟩:=aI a e1;rw[E,v,I,R,n r (ai r x)];refine⟨j,c,y,F.imp_left fun h=>⟨.inl h.1,?_⟩⟩;rw[n a (H a h.1)];exact h.2
 .intro b m aL au a1 av;rw[E]at m;rw[v]at aL;rw[I]at au;rw[n r (ai r x)]at av;obtain ak|rfl:=(R b).1 a1
  .rw[n b (H b ak)]at av;exact aJ b au (aX b m aL au ak av)
  omega
 intro q M aa m;rw[v]at aa;rw[I]at m;exact aJ _ m (aY q M aa m)
def Mv.inv{A'}(g:Inv i A)(h:Mv i A A'):Inv i A':=by
 cases h with
 |rd f r o=>exact Bq g f r o
 |wr f o=>exact Nl g f o
 |fe f o=>exact Sf g f o
 |put f u w y C=>exact QM g f u w y C
 |dr E=>exact NB g E
end Am
end
end Go.Proofs.YtilhngjecfdgpaaGreatDoor
