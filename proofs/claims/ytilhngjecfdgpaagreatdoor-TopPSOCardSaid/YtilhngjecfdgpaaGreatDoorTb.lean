/- Part 2 of 9 of the proof of seisintop.TopPSO (theorem topPSO.card, at the end of the last part), its names and blanks shortened by a program to fit a claim's bound; it holds the texts Eb Ec Ed Ee Ef Bm Bo Bl Bq Ca Cb Cc Cd Ce Cf Cg Ch Ci Sd Se Sf, one behind the other. -/
import Derived.Test.YtilhngjecfdgpaaGreatDoorTa
set_option linter.all false
set_option linter.defProp false
set_option linter.unusedVariables false
set_option linter.unusedSimpArgs false
set_option maxRecDepth 100000
set_option maxHeartbeats 16000000
namespace Go.Proofs.YtilhngjecfdgpaaGreatDoor
open Go.RowKit Go.Shelf Go.Proofs.Tryz
set_option maxRecDepth 1000000
section
open Go.Sort
def acv(g j v:Nat)(d:Array (Int))(a b:Nat)(w:World)(p:Holds T w g j d)(z:a<=b)(C:b<=d.size)(E:d.size<4611686018427387904):
 Calls prog 210 #[.slice (some ⟨g,j,none⟩) d.size v,.int .i64 a,.int .i64 b] w fun e x=>e= .returned (.tuple #[])/\∃n,x=putRow T (Sort.ahead w n) g j (reverseRange d a b):=by
 go_enter func210,ntmps210;go_wp2
 go_loopg [6,7] (b-a) (fun k o q wr=>∃(i c:Nat)(m:Int)(l:Array (Int))(n:Nat),o= .int .i64 i/\q= .int .i64 m/\((i:Int)<m->m=c/\c<d.size)/\(¬(i:Int)<m->¬i<c)/\c-i<=k/\
  l.size=d.size/\wr=putRow T (Sort.ahead w n) g j l/\reverseLoop i c l=reverseLoop a (b-1) d)
 case atStart=>exact⟨a,b-1,(b:Int)-1,d,0,rfl,rfl,fun h=>⟨by omega,by omega⟩,fun h=>by omega,by omega,rfl,(putRow_self T w g j d p).s,rfl⟩
 obtain⟨i,c,m,l,n,rfl,rfl,r,s,F,t,q,o⟩:=hrel;by_cases u:(i:Int)<m
 .obtain⟨rfl,H⟩:=r u;have y:i<c:=by omega
  have m:Holds T wr g j l:=by rw[q];exact holds_putRow T _ g j d l (holds_ahead T w n g j d p) t
  have⟨I,J⟩:=m i (by omega);have⟨L,M⟩:=m c (by omega);have A:Aside (wr=putRow T (Sort.ahead w n) g j l):=q;clear q m p r s;go_wp2;go_region;go_wp2
  go_roundg (c-1-(i+1))
  case measure=>omega
  rw[reverseLoop,aq y]at o;exact⟨i+1,c-1,(c:Int)-1,swp l i c,n+1,by simp,rfl,fun h=>⟨by omega,by omega⟩,fun h=>by omega,av _,by rw[size_swp];exact t,
   BH T (by omega) (by omega) A.y (by simp[T,De,show c<l.size by omega]) rfl,o⟩
 have c:=s u;go_wp2
 go_end0
 refine⟨rfl,n,?_⟩;rw[reverseLoop,O c]at o;rw[reverseRange,<-o]
def Iv(c g H J:Nat)(d:Array (Int))(L:d.size=H)(lo j first:Nat)(w:World)(i:Holds T w c g d)(M:lo<=j)(W:first+j<=d.size)(X:d.size<4611686018427387904):
 Calls prog 233 #[.slice (some ⟨c,g,none⟩) H J,.int .i64 lo,.int .i64 j,.int .i64 first] w fun e N=>e= .returned (.tuple #[])/\∃n,N=putRow T (Sort.ahead w n) c g (siftDown ltInt j first lo d):=by
 subst L;go_enter func233,ntmps233;go_wp2
 go_loopg [8] (j-lo) (fun k l wr=>∃(b:Nat)(a:Array (Int))(n:Nat),l= .int .i64 b/\b<=j/\j-b<=k/\a.size=d.size/\wr=putRow T (Sort.ahead w n) c g a/\siftDown ltInt j first b a=siftDown ltInt j first lo d)
 case atStart=>exact⟨lo,d,0,rfl,M,av _,rfl,(putRow_self T w c g d i).s,rfl⟩
 obtain⟨b,a,n,rfl,aa,ab,E,l,r⟩:=hrel;have m:Holds T wr c g a:=by rw[l];exact holds_putRow T _ c g d a (holds_ahead T w n c g d i) E
 have s:∀t,t<d.size->wr.cell? ⟨c,g+t,none⟩=some (.int .u8 (a[t]!)):=fun t O=>(m t (by omega)).1;have u:∀t,t<d.size->wr.frozen? ⟨c,g+t,none⟩=false:=fun t O=>(m t (by omega)).2;have A:Aside (wr=putRow T (Sort.ahead w n) c g a):=l;clear l i m;by_cases P:j<=2*b+1
 ·
  have Q:(j:Int)<=2*(b:Int)+1:=by omega
  go_wp2
  go_end0
  refine⟨rfl,n,?_⟩;rw[A.y,<-r,sd_end ltInt a P]
 ·
  have Q:¬((j:Int)<=2*(b:Int)+1):=by omega
  by_cases F:2*b+2<j
  .have R:2*(b:Int)+1+1<(j:Int):=by omega
   go_wp2
   go_big_quiet (first|(go_at_call 212;refine fV (fH _ _ _)))
   go_wp2_with fail
   ·
    have v:ltInt a[first+2*b+1]! a[first+2*b+2]! =true:=by assumption
    revert nq;intro i;have o:∀t,t<d.size->(wr.drewN i).cell? ⟨c,g+t,none⟩=some (.int .u8 (a[t]!)):=s;have p:∀t,t<d.size->(wr.drewN i).frozen? ⟨c,g+t,none⟩=false:=u;have l:Aside (wr.drewN i=putRow T (Sort.ahead w (n+i)) c g a):=ux T A.y i;clear s u A;generalize wr.drewN i=m at o p l⊢
    go_big_quiet (first|(go_at_call 212;refine fV (fH _ _ _)))
    go_wp2_with fail
    ·
     have x:ltInt a[first+b]! a[first+2*b+2]! =false:=by
      have:(!ltInt a[first+b]! a[first+2*b+2]!)=true:=by assumption
      simpa using this
     (try simp only[Exit.inBlock,Exit.then]);refine bK (ju rfl _ _ _) rfl ?_
     refine⟨rfl,n+i+nq,?_⟩;rw[ux T l.y nq,<-r,sd_right_stop ltInt a F v x]
    ·
     have y:ltInt a[first+b]! a[first+2*b+2]! =true:=by
      have:(!ltInt a[first+b]! a[first+2*b+2]!)=false:=by assumption
      simpa using this
     have z:∀t,t<d.size->(m.drewN nq).cell? ⟨c,g+t,none⟩=some (.int .u8 (a[t]!)):=o;have C:∀t,t<d.size->(m.drewN nq).frozen? ⟨c,g+t,none⟩=false:=p;have q:Aside (m.drewN nq=putRow T (Sort.ahead w (n+i+nq)) c g a):=ux T l.y nq;clear o p l;generalize m.drewN nq=I at z C q⊢;go_region;go_wp2
     go_roundg (j-(2*b+2))
     case measure=>omega
     refine⟨2*b+2,swp a (first+b) (first+(2*b+1+1)),n+i+nq+1,by simp<;>omega,by omega,av _,by rw[size_swp];exact E,BH T (by omega) (by omega) q.y rfl rfl,?_⟩;rw[<-r,sd_right_go ltInt a F v y]
   ·
    have v:ltInt a[first+2*b+1]! a[first+2*b+2]! =false:=by assumption
    revert nq;intro i;have o:∀t,t<d.size->(wr.drewN i).cell? ⟨c,g+t,none⟩=some (.int .u8 (a[t]!)):=s;have p:∀t,t<d.size->(wr.drewN i).frozen? ⟨c,g+t,none⟩=false:=u;have l:Aside (wr.drewN i=putRow T (Sort.ahead w (n+i)) c g a):=ux T A.y i;clear s u A;generalize wr.drewN i=m at o p l⊢
    go_big_quiet (first|(go_at_call 212;refine fV (fH _ _ _)))
    go_wp2_with fail
    ·
     have x:ltInt a[first+b]! a[first+2*b+1]! =false:=by
      have:(!ltInt a[first+b]! a[first+2*b+1]!)=true:=by assumption
      simpa using this
     (try simp only[Exit.inBlock,Exit.then]);refine bK (ju rfl _ _ _) rfl ?_
     refine⟨rfl,n+i+nq,?_⟩;rw[ux T l.y nq,<-r,sd_left_stop ltInt a (by omega) (fun _=>v) x]
    ·
     have y:ltInt a[first+b]! a[first+2*b+1]! =true:=by
      have:(!ltInt a[first+b]! a[first+2*b+1]!)=false:=by assumption
      simpa using this
     have z:∀t,t<d.size->(m.drewN nq).cell? ⟨c,g+t,none⟩=some (.int .u8 (a[t]!)):=o;have C:∀t,t<d.size->(m.drewN nq).frozen? ⟨c,g+t,none⟩=false:=p;have q:Aside (m.drewN nq=putRow T (Sort.ahead w (n+i+nq)) c g a):=ux T l.y nq;clear o p l;generalize m.drewN nq=I at z C q⊢;go_region;go_wp2
     go_roundg (j-(2*b+1))
     case measure=>omega
     refine⟨2*b+1,swp a (first+b) (first+(2*b+1)),n+i+nq+1,by simp<;>omega,by omega,av _,by rw[size_swp];exact E,BH T (by omega) (by omega) q.y rfl rfl,?_⟩;rw[<-r,sd_left_go ltInt a (by omega) (fun _=>v) y]
  ·
   have R:decide (2*(b:Int)+1+1<(j:Int))=false:=gX (by omega);go_wp2
   go_big_quiet (first|(go_at_call 212;refine fV (fH _ _ _)))
   go_wp2_with fail
   revert nq;intro i;have o:∀t,t<d.size->(wr.drewN i).cell? ⟨c,g+t,none⟩=some (.int .u8 (a[t]!)):=s;have p:∀t,t<d.size->(wr.drewN i).frozen? ⟨c,g+t,none⟩=false:=u;have l:Aside (wr.drewN i=putRow T (Sort.ahead w (n+i)) c g a):=ux T A.y i;clear s u A;generalize wr.drewN i=m at o p l⊢
   go_big_quiet (first|(go_at_call 212;refine fV (fH _ _ _)))
   go_wp2_with fail
   ·
    have x:ltInt a[first+b]! a[first+2*b+1]! =false:=by
     have:(!ltInt a[first+b]! a[first+2*b+1]!)=true:=by assumption
     simpa using this
    (try simp only[Exit.inBlock,Exit.then]);refine bK (ju rfl _ _ _) rfl ?_
    refine⟨rfl,n+i+nq,?_⟩;rw[ux T l.y nq,<-r,sd_left_stop ltInt a (by omega) (fun h=>absurd h F) x]
   ·
    have y:ltInt a[first+b]! a[first+2*b+1]! =true:=by
     have:(!ltInt a[first+b]! a[first+2*b+1]!)=false:=by assumption
     simpa using this
    have z:∀t,t<d.size->(m.drewN nq).cell? ⟨c,g+t,none⟩=some (.int .u8 (a[t]!)):=o;have C:∀t,t<d.size->(m.drewN nq).frozen? ⟨c,g+t,none⟩=false:=p;have q:Aside (m.drewN nq=putRow T (Sort.ahead w (n+i+nq)) c g a):=ux T l.y nq;clear o p l;generalize m.drewN nq=I at z C q⊢;go_region;go_wp2
    go_roundg (j-(2*b+1))
    case measure=>omega
    refine⟨2*b+1,swp a (first+b) (first+(2*b+1)),n+i+nq+1,by simp<;>omega,by omega,av _,by rw[size_swp];exact E,BH T (by omega) (by omega) q.y rfl rfl,?_⟩;rw[<-r,sd_left_go ltInt a (by omega) (fun h=>absurd h F) y]
def X3(c g z r:Nat)(d:Array (Int))(I:d.size=z)(a b:Nat)(w:World)(q:Holds T w c g d)(J:a<=b)(P:b<=d.size)(Q:d.size<4611686018427387904):
 Calls prog 207 #[.slice (some ⟨c,g,none⟩) z r,.int .i64 a,.int .i64 b] w fun e L=>e= .returned (.tuple #[])/\∃n,L=putRow T (Sort.ahead w n) c g (heapSort ltInt d a b):=by
 subst I;have C:((b-a:Nat):Int)=(b:Int)-(a:Int):=by omega
 go_enter func207,ntmps207;go_wp2
 go_loopg [9] ((b-a-1)/2+1) (fun k l wr=>l= .int .i64 ((k:Int)-1)/\k<=(b-a-1)/2+1/\∃(h:Array (Int))(n:Nat),h.size=d.size/\wr=putRow T (Sort.ahead w n) c g h/\
  heapBuild ltInt (b-a) a k h=heapBuild ltInt (b-a) a ((b-a-1)/2+1) d)
 case atStart=>exact⟨by rw[half_start J],av _,d,0,rfl,(putRow_self T w c g d q).s,rfl⟩
 obtain⟨rfl,E,h,n,s,l,v⟩:=hrel;have F:Holds T wr c g h:=by rw[l];exact holds_putRow T _ c g d h (holds_ahead T w n c g d q) s
 have A:Aside (wr=putRow T (Sort.ahead w n) c g h):=l;clear l;cases gk with
 |zero=>
  have M:h=heapBuild ltInt (b-a) a ((b-a-1)/2+1) d:=v;clear v F E;go_wp2
  go_loopg [10] (b-a) (fun k p u=>p= .int .i64 ((k:Int)-1)/\k<=b-a/\∃(l:Array (Int))(o:Nat),l.size=d.size/\u=putRow T (Sort.ahead w o) c g l/\heapPop ltInt a k l=heapPop ltInt a (b-a) h)
  case atStart=>exact⟨by rw[C],av _,h,n,s,A.y,rfl⟩
  obtain⟨rfl,E,l,o,p,u,x⟩:=hrel;cases gk with
  |zero=>
   go_wp2
   go_end0
   refine⟨rfl,o,?_⟩;have e:l=heapSort ltInt d a b:=by rw[heapSort,<-M,<-x];rfl
   rw[<-e]
  |succ k=>
   have y:Holds T wr c g l:=by rw[u];exact holds_putRow T _ c g d l (holds_ahead T w o c g d q) p
   have:∀t,t<d.size->wr.cell? ⟨c,g+t,none⟩=some (.int .u8 (l[t]!)):=fun t N=>(y t (by omega)).1;have:∀t,t<d.size->wr.frozen? ⟨c,g+t,none⟩=false:=fun t N=>(y t (by omega)).2;have H:Aside (wr=putRow T (Sort.ahead w o) c g l):=u;clear u y;obtain O|R:=Cl k
   .subst O;go_wp2;go_region
    go_wp2_with fail
    rw[BH T (i:=a) (j:=a) (by omega) (by omega) H.y rfl rfl];refine(Iv c g d.size r (swp l a (a)) (by rw[size_swp];exact p) 0 0 a _ (holds_putRow T _ c g d _ (holds_ahead T w (o+1) c g d q) (by rw[size_swp];exact p)) (aQ _) (by rw[size_swp];omega) (by rw[size_swp];omega)).m ?_;rintro e y ⟨rfl,m,u⟩;go_wp2
    go_roundg 0
    case measure=>omega
    refine⟨by simp,by omega,siftDown ltInt 0 a 0 (swp l a (a)),o+1+m,by rw[size_siftDown ltInt _ _ _ _ _ (av _),size_swp];exact p,?_,x⟩
    first
     |rw[u,putRow_ahead_putRow T w (o+1) m c g _ _ (size_siftDown ltInt _ _ _ _ _ (av _))]
     |rw[putRow_ahead_putRow T w (o+1) m c g _ _ (size_siftDown ltInt _ _ _ _ _ (av _))]
   skip
   go_wp2;go_region
   go_wp2_with fail
   rw[BH T (i:=a) (j:=a+k) (by omega) (by omega) H.y rfl rfl];refine(Iv c g d.size r (swp l a (a+k)) (by rw[size_swp];exact p) 0 k a _ (holds_putRow T _ c g d _ (holds_ahead T w (o+1) c g d q) (by rw[size_swp];exact p)) (aQ _) (by rw[size_swp];omega) (by rw[size_swp];omega)).m ?_;rintro e y ⟨rfl,m,u⟩;go_wp2
   go_roundg k
   case measure=>omega
   refine⟨by simp,by omega,siftDown ltInt k a 0 (swp l a (a+k)),o+1+m,by rw[size_siftDown ltInt _ _ _ _ _ (av _),size_swp];exact p,?_,x⟩
   first
    |rw[u,putRow_ahead_putRow T w (o+1) m c g _ _ (size_siftDown ltInt _ _ _ _ _ (av _))]
    |rw[putRow_ahead_putRow T w (o+1) m c g _ _ (size_siftDown ltInt _ _ _ _ _ (av _))]
 |succ k=>
  have l:=Iv c g d.size r h s k (b-a) a wr F (by omega) (by omega) (by omega);rw[C]at l
  go_wp2_with (go_at_call 233;refine l.m ?_;rintro e y ⟨rfl,m,u⟩)
  go_roundg k
  case measure=>omega
  refine⟨by simp,by omega,siftDown ltInt (b-a) a k h,n+m,by rw[size_siftDown ltInt _ _ _ _ _ (av _)];exact s,?_,v⟩;rw[A.y,putRow_ahead_putRow T w n m c g h _ (size_siftDown ltInt _ _ _ _ _ (av _))]
end
set_option maxRecDepth 100000
section
open Go.Sort
def Xc(l m aj a b r:Nat)(d:Array (Int))(w:World)(c:Holds T w l m d)(aq:a<=r)(ar:r<b)(au:b<=d.size)(aw:d.size<4611686018427387904):
 Calls prog 213 #[.slice (some ⟨l,m,none⟩) d.size aj,.int .i64 a,.int .i64 b,.int .i64 r] w fun e ak=>
  e=(Value.int .i64 (Sort.partitionEqual Sort.ltInt d a b r).1)/\∃n,ak=(putRow T w l m (Sort.partitionEqual Sort.ltInt d a b r).2).drewN n:=by
 have W:a<d.size:=by omega
 have X:r<d.size:=by omega
 obtain⟨G,g⟩:∃G:Nat->Int,∀j,G j=d[j]!:=⟨fun j=>d[j]!,fun _=>rfl⟩
 have y:w.cell? ⟨l,m+a,none⟩=some (.int .u8 (G a)):=by rw[g];exact(c a W).1
 have A:=(c a W).2;have o:w.cell? ⟨l,m+r,none⟩=some (.int .u8 (G r)):=by rw[g];exact(c r X).1
 have C:=(c r X).2;obtain⟨E,F⟩:=tg (w:=w) (p:=⟨l,m+a,none⟩) (x:= .int .u8 (G r)) (q:=⟨l,m+r,none⟩) o;have u:((w.setCell ⟨l,m+a,none⟩ (.int .u8 (G r))).setCell ⟨l,m+r,none⟩ (.int .u8 (G a))).drew=(putRow T w l m (Sort.swp d a r)).drewN 1:=by
  have e:=tQ T w l m d 0 a r W X;rw[putRow_self _ w l m d c]at e;rw[g a,g r];exact e
 have al:=H c;have s:=Hid.mk' u;clear g c u;go_enter func213,ntmps213;go_wp2;go_region;go_wp2
 go_loopw [9,10] (fun h z wr=>∃(i j n:Nat)(c:Array (Int)),h= .int .i64 i/\z= .int .i64 j/\a<i/\i<=j+1/\j<b/\c.size=d.size/\wr=(putRow T w l m c).drewN n/\
  Sort.partEqLoop Sort.ltInt a i j c=Sort.partEqLoop Sort.ltInt a (a+1) (b-1) (Sort.swp d a r))
  (fun h z _=>(intOf z).toNat+1-(intOf h).toNat)
 case atStart=>exact⟨a+1,b-1,1,Sort.swp d a r,by go_num,by go_num,by omega,by omega,by omega,size_swp _ _ _,s.y,rfl⟩
 obtain⟨i,j,n,c,rfl,rfl,ax,am,ay,ae,u,v⟩:=hrel;clear y A o C F E s
 rename World=>W1
 have L:=H v;clear v;have v:Holds T W1 l m c:=by
  rw[u];exact holds_putRow T w l m d c al.y ae
 obtain⟨s,g⟩:∃s:Nat->Int,∀t,s t=c[t]!:=⟨fun t=>c[t]!,fun _=>rfl⟩
 have I:∀t,t<d.size->W1.cell? ⟨l,m+t,none⟩=some (.int .u8 (s t)):=fun t o=>by rw[g];exact(v t (by omega)).1
 have aa:∀t,t<d.size->W1.frozen? ⟨l,m+t,none⟩=false:=fun t o=>(v t (by omega)).2;have af:=H g;have A:Hid (∀t,(s t)=c[t]!):=fun t=>by rw[g]
 have ab:=H u;clear g u v;go_wp2
 go_loopw [9] (fun h u=>∃(g E:Nat),h= .int .i64 g/\i<=g/\g<=j+1/\u=W1.drewN E/\
  Hid (Sort.scanUp (fun x=>!Sort.ltInt c[a]! x) c j g=Sort.scanUp (fun x=>!Sort.ltInt c[a]! x) c j i))
  (fun h _=>j+1-(intOf h).toNat)
 case atStart=>exact⟨i,0,rfl,av _,am,rfl,rfl⟩
 obtain⟨g,E,rfl,az,ag,h,M⟩:=hrel;have F:∀t,t<d.size->wr.cell? ⟨l,m+t,none⟩=some (.int .u8 (s t)):=fun t o=>by rw[h];exact I t o
 have N:=H h;clear h;by_cases ah:g<=j
 .go_wp2
  go_big_quiet (first|(go_at_call 212;refine fV (fH _ _ _)))
  go_wp2
  ·
   have o:(!Sort.ltInt (s a) (s g))=true:=by assumption
   go_roundw
   case rel=>exact⟨g+1,E+nq,by go_num,by omega,by omega,by rw[N.y,gp],(scanUp_go (fun x=>!Sort.ltInt c[a]! x) c j g ah (by rw[<-A.y a,<-A.y g];exact o)).s.t M.y⟩
   simp[intOf];omega
  ·
   have o:(!Sort.ltInt (s a) (s g))=false:=by assumption
   have O:Hid (g=Sort.scanUp (fun x=>!Sort.ltInt c[a]! x) c j i):=(BA (fun x=>!Sort.ltInt c[a]! x) c j g (Or.inr (by rw[<-A.y a,<-A.y g];exact o))).s.t M.y;clear o;have v:wr.drewN nq=W1.drewN (E+nq):=by rw[N.y,gp]
   clear F N M
   go_loopw [10] (fun z ad=>∃(h y:Nat),z= .int .i64 h/\h<=j/\g<=h+1/\ad=W1.drewN y/\
    Hid (Sort.scanDown (fun x=>Sort.ltInt c[a]! x) c g h=Sort.scanDown (fun x=>Sort.ltInt c[a]! x) c g j))
    (fun z _=>(intOf z).toNat)
   case atStart=>exact⟨j,E+nq,rfl,av _,ag,v,rfl⟩
   clear v;obtain⟨h,y,rfl,an,ao,v,C⟩:=hrel;have F:∀t,t<d.size->wr.cell? ⟨l,m+t,none⟩=some (.int .u8 (s t)):=fun t o=>by rw[v];exact I t o
   have P:=H v;clear v;by_cases Q:g<=h
   .go_wp2
    go_big_quiet (first|(go_at_call 212;refine fV (fH _ _ _)))
    go_wp2
    ·
     have o:Sort.ltInt (s a) (s h)=true:=by assumption
     go_roundw
     case rel=>exact⟨h-1,y+nq,by go_num,by omega,by omega,by rw[P.y,gp],(scanDown_go (fun x=>Sort.ltInt c[a]! x) c g h Q (by omega) (by rw[<-A.y a,<-A.y h];exact o)).s.t C.y⟩
     simp[intOf];omega
    ·
     have o:Sort.ltInt (s a) (s h)=false:=by assumption
     have J:Hid (h=Sort.scanDown (fun x=>Sort.ltInt c[a]! x) c g j):=(tF (fun x=>Sort.ltInt c[a]! x) c g h (Or.inr (by rw[<-A.y a,<-A.y h];exact o))).s.t C.y;clear F C o;have u:wr.drewN nq=W1.drewN (y+nq):=by rw[P.y,gp]
     generalize wr.drewN nq=W3 at u⊢;have ai:∀t,t<d.size->W3.cell? ⟨l,m+t,none⟩=some (.int .u8 (s t)):=fun t o=>by rw[u];exact I t o
     have ap:∀t,t<d.size->W3.frozen? ⟨l,m+t,none⟩=false:=fun t o=>by rw[u];exact aa t o
     have R:=H u;clear u;obtain⟨aA,aB⟩:=tg (w:=W3) (p:=⟨l,m+g,none⟩) (x:= .int .u8 (s h)) (q:=⟨l,m+h,none⟩) (ai h (by omega));have:=scans_lt Sort.ltInt a i j c (by omega) O.y J.y Q;go_wp2;go_region
     all_goals go_wp2
     all_goals go_roundw
     case rel=>
      refine⟨g+1,h-1,n+(y+nq)+1,Sort.swp c g h,by go_num,by go_num,by omega,by omega,by omega,by rw[size_swp];exact ae,?_,?_⟩
      .rw[R.y,ab.y,gp,af.y g,af.y h];exact tQ T w l m c _ g h (by omega) (by omega)
      exact(partEq_go Sort.ltInt a i j c O.y J.y (by omega)).s.t L.y
     simp[intOf];omega
   go_wp2
   go_big_quiet (first|(go_at_call 212;refine fV (fH _ _ _)))
   have J:Hid (h=Sort.scanDown (fun x=>Sort.ltInt c[a]! x) c g j):=(tF (fun x=>Sort.ltInt c[a]! x) c g h (Or.inl Q)).s.t C.y;clear F C;have u:wr.drewN nq=W1.drewN (y+nq):=by rw[P.y,gp]
   generalize wr.drewN nq=W3 at u⊢;have ai:∀t,t<d.size->W3.cell? ⟨l,m+t,none⟩=some (.int .u8 (s t)):=fun t o=>by rw[u];exact I t o
   have ap:∀t,t<d.size->W3.frozen? ⟨l,m+t,none⟩=false:=fun t o=>by rw[u];exact aa t o
   have R:=H u;clear u;go_wp2;go_ret;have e:=partEq_break Sort.ltInt a i j c O.y J.y (by omega);refine⟨?_,n+(y+nq),?_⟩
   .unfold Sort.partitionEqual;rw[<-L.y,e];rfl
   unfold Sort.partitionEqual;rw[<-L.y,e,R.y,ab.y,gp]
 go_wp2
 go_big_quiet (first|(go_at_call 212;refine fV (fH _ _ _)))
 go_wp2;have O:Hid (g=Sort.scanUp (fun x=>!Sort.ltInt c[a]! x) c j i):=(BA (fun x=>!Sort.ltInt c[a]! x) c j g (Or.inl ah)).s.t M.y;have v:wr.drewN nq=W1.drewN (E+nq):=by rw[N.y,gp]
 clear F N M
 go_loopw [10] (fun z ad=>∃(h y:Nat),z= .int .i64 h/\h<=j/\g<=h+1/\ad=W1.drewN y/\
  Hid (Sort.scanDown (fun x=>Sort.ltInt c[a]! x) c g h=Sort.scanDown (fun x=>Sort.ltInt c[a]! x) c g j))
  (fun z _=>(intOf z).toNat)
 case atStart=>exact⟨j,E+nq,rfl,av _,ag,v,rfl⟩
 clear v;obtain⟨h,y,rfl,an,ao,v,C⟩:=hrel;have F:∀t,t<d.size->wr.cell? ⟨l,m+t,none⟩=some (.int .u8 (s t)):=fun t o=>by rw[v];exact I t o
 have P:=H v;clear v;by_cases Q:g<=h
 .exfalso;omega
 go_wp2
 go_big_quiet (first|(go_at_call 212;refine fV (fH _ _ _)))
 have J:Hid (h=Sort.scanDown (fun x=>Sort.ltInt c[a]! x) c g j):=(tF (fun x=>Sort.ltInt c[a]! x) c g h (Or.inl Q)).s.t C.y;clear F C;have u:wr.drewN nq=W1.drewN (y+nq):=by rw[P.y,gp]
 generalize wr.drewN nq=W3 at u⊢;have:∀t,t<d.size->W3.cell? ⟨l,m+t,none⟩=some (.int .u8 (s t)):=fun t o=>by rw[u];exact I t o
 have:∀t,t<d.size->W3.frozen? ⟨l,m+t,none⟩=false:=fun t o=>by rw[u];exact aa t o
 have R:=H u;clear u;go_wp2;go_ret;have e:=partEq_break Sort.ltInt a i j c O.y J.y (by omega);refine⟨?_,n+(y+nq),?_⟩
 .unfold Sort.partitionEqual;rw[<-L.y,e];rfl
 unfold Sort.partitionEqual;rw[<-L.y,e,R.y,ab.y,gp]
def ac0(g h i a b c:Nat)(d:Array (Int))(w:World)(j:Holds T w g h d)(l:a<=c)(m:c<b)(o:b<=d.size)(p:d.size<4611686018427387904):
 Calls prog 213 #[.slice (some ⟨g,h,none⟩) d.size i,.int .i64 a,.int .i64 b,.int .i64 c] w fun e q=>
  e= .returned (.int .i64 (Sort.partitionEqual Sort.ltInt d a b c).1)/\∃n,q=putRow T (Sort.ahead w n) g h (Sort.partitionEqual Sort.ltInt d a b c).2:=
 (Xc g h i a b c d w j l m o p).m fun _ _ ⟨r,n,s⟩=>⟨r,n,s⟩
def Wz(l m aG a b u:Nat)(d:Array (Int))(w:World)(c:Holds T w l m d)(aL:a<=u)(aM:u<b)(aN:b<=d.size)(aO:d.size<4611686018427387904):
 Calls prog 214 #[.slice (some ⟨l,m,none⟩) d.size aG,.int .i64 a,.int .i64 b,.int .i64 u] w fun e aH=>
  e= .returned (.tuple #[.int .i64 (Sort.partition Sort.ltInt d a b u).1,.bool (Sort.partition Sort.ltInt d a b u).2.1])/\∃n,aH=(putRow T w l m (Sort.partition Sort.ltInt d a b u).2.2).drewN n:=by
 have ap:a<d.size:=by omega
 have aq:u<d.size:=by omega
 obtain⟨G,E⟩:∃G:Nat->Int,∀j,G j=d[j]!:=⟨fun j=>d[j]!,fun _=>rfl⟩
 have o:w.cell? ⟨l,m+a,none⟩=some (.int .u8 (G a)):=by rw[E];exact(c a ap).1
 have r:=(c a ap).2;have g:w.cell? ⟨l,m+u,none⟩=some (.int .u8 (G u)):=by rw[E];exact(c u aq).1
 have s:=(c u aq).2;obtain⟨v,y⟩:=tg (w:=w) (p:=⟨l,m+a,none⟩) (x:= .int .u8 (G u)) (q:=⟨l,m+u,none⟩) g;have N:((w.setCell ⟨l,m+a,none⟩ (.int .u8 (G u))).setCell ⟨l,m+u,none⟩ (.int .u8 (G a))).drew=(putRow T w l m (Sort.swp d a u)).drewN 1:=by
  have e:=tQ T w l m d 0 a u ap aq;rw[putRow_self _ w l m d c]at e;rw[E a,E u];exact e
 have aC:=H c;have h:=Hid.mk' N;clear E c N;go_enter func214,ntmps214;go_wp2;go_region;go_wp2;clear o r g s y v;have N:=h.y;clear h;generalize ((w.setCell ⟨l,m+a,none⟩ (.int .u8 (G u))).setCell ⟨l,m+u,none⟩ (.int .u8 (G a))).drew=W1 at N⊢;have⟨c,g⟩:=eX (Sort.swp d a u);have⟨n,h⟩:=eX (1:Nat);rw[<-g,<-h]at N;clear h;have ak:c.size=d.size:=by rw[g,size_swp]
 have e1:((a:Int)+1)=((a+1:Nat):Int):=by omega
 have e2:((b:Int)-1)=((b-1:Nat):Int):=by omega
 rw[e1,e2];clear e1 e2;have⟨i,h⟩:=eX (a+1);have⟨j,o⟩:=eX (b-1);rw[<-h,<-o];have aI:a<i:=by omega
 have ar:i<=j+1:=by omega
 have aJ:j<b:=by omega
 have au:=Hid.mk' h;have aw:=Hid.mk' o;have ax:=Hid.mk' g;clear h o g;have ag:Holds T W1 l m c:=by
  rw[N];exact holds_putRow T w l m d c aC.y ak
 obtain⟨r,E⟩:∃r:Nat->Int,∀t,r t=c[t]!:=⟨fun t=>c[t]!,fun _=>rfl⟩
 have J:∀t,t<d.size->W1.cell? ⟨l,m+t,none⟩=some (.int .u8 (r t)):=fun t o=>by rw[E];exact(ag t (by omega)).1
 have ae:∀t,t<d.size->W1.frozen? ⟨l,m+t,none⟩=false:=fun t o=>(ag t (by omega)).2;have L:=H E;have A:Hid (∀t,(r t)=c[t]!):=fun t=>by rw[E]
 have af:=H N;clear E N ag
 go_loopw [10] (fun W ay=>∃(h F:Nat),W= .int .i64 h/\i<=h/\h<=j+1/\ay=W1.drewN F/\
  Hid (Sort.scanUp (fun x=>Sort.ltInt x c[a]!) c j h=Sort.scanUp (fun x=>Sort.ltInt x c[a]!) c j i))
  (fun W _=>j+1-(intOf W).toNat)
 case atStart=>exact⟨i,0,rfl,av _,ar,rfl,rfl⟩
 obtain⟨h,F,rfl,aK,al,ah,X⟩:=hrel;have I:∀t,t<d.size->wr.cell? ⟨l,m+t,none⟩=some (.int .u8 (r t)):=fun t o=>by rw[ah];exact J t o
 have aa:=H ah;clear ah;by_cases am:h<=j
 .go_wp2
  go_big_quiet (first|(go_at_call 212;refine fV (fH _ _ _)))
  go_wp2
  ·
   have o:Sort.ltInt (r h) (r a)=true:=by assumption
   go_roundw
   case rel=>exact⟨h+1,F+nq,by go_num,by omega,by omega,by rw[aa.y,gp],(scanUp_go (fun x=>Sort.ltInt x c[a]!) c j h am (by rw[<-A.y a,<-A.y h];exact o)).s.t X.y⟩
   simp[intOf];omega
  ·
   have o:Sort.ltInt (r h) (r a)=false:=by assumption
   have O:Hid (h=Sort.scanUp (fun x=>Sort.ltInt x c[a]!) c j i):=(BA (fun x=>Sort.ltInt x c[a]!) c j h (Or.inr (by rw[<-A.y a,<-A.y h];exact o))).s.t X.y;clear o;have v:wr.drewN nq=W1.drewN (F+nq):=by rw[aa.y,gp]
   clear I aa X
   go_loopw [11] (fun z ai=>∃(g y:Nat),z= .int .i64 g/\g<=j/\h<=g+1/\ai=W1.drewN y/\
    Hid (Sort.scanDown (fun x=>!Sort.ltInt x c[a]!) c h g=Sort.scanDown (fun x=>!Sort.ltInt x c[a]!) c h j))
    (fun z _=>(intOf z).toNat)
   case atStart=>exact⟨j,F+nq,rfl,av _,al,v,rfl⟩
   clear v;obtain⟨g,y,rfl,az,aA,v,C⟩:=hrel;have I:∀t,t<d.size->wr.cell? ⟨l,m+t,none⟩=some (.int .u8 (r t)):=fun t o=>by rw[v];exact J t o
   have ab:=H v;clear v;by_cases ad:h<=g
   .go_wp2
    go_big_quiet (first|(go_at_call 212;refine fV (fH _ _ _)))
    go_wp2
    ·
     have o:(!Sort.ltInt (r g) (r a))=true:=by assumption
     go_roundw
     case rel=>exact⟨g-1,y+nq,by go_num,by omega,by omega,by rw[ab.y,gp],(scanDown_go (fun x=>!Sort.ltInt x c[a]!) c h g ad (by omega) (by rw[<-A.y a,<-A.y g];exact o)).s.t C.y⟩
     simp[intOf];omega
    ·
     have o:(!Sort.ltInt (r g) (r a))=false:=by assumption
     have M:Hid (g=Sort.scanDown (fun x=>!Sort.ltInt x c[a]!) c h j):=(tF (fun x=>!Sort.ltInt x c[a]!) c h g (Or.inr (by rw[<-A.y a,<-A.y g];exact o))).s.t C.y;clear I C o;have s:wr.drewN nq=W1.drewN (y+nq):=by rw[ab.y,gp]
     generalize wr.drewN nq=W3 at s⊢;have P:∀t,t<d.size->W3.cell? ⟨l,m+t,none⟩=some (.int .u8 (r t)):=fun t o=>by rw[s];exact J t o
     have an:∀t,t<d.size->W3.frozen? ⟨l,m+t,none⟩=false:=fun t o=>by rw[s];exact ae t o
     have Q:=H s;clear s;obtain⟨ao,aj⟩:=tg (w:=W3) (p:=⟨l,m+h,none⟩) (x:= .int .u8 (r g)) (q:=⟨l,m+g,none⟩) (P g (by omega));have aP:=part_scans_lt Sort.ltInt a i j c (by omega) O.y M.y ad;go_wp2;go_region
     all_goals go_wp2
     have⟨R,aB⟩:=eX (Sort.partLoop Sort.ltInt a (h+1) (g-1) (Sort.swp c h g));have aD:Hid (Sort.partition Sort.ltInt d a b u=(R.1,false,Sort.swp R.2 R.1 a)):=by rw[aB];exact part_first_go Sort.ltInt d a b u au.y aw.y ax.y O.y M.y (by omega)
     have aE:((W3.setCell ⟨l,m+h,none⟩ (.int .u8 (r g))).setCell ⟨l,m+g,none⟩ (.int .u8 (r h))).drew=(putRow T w l m (Sort.swp c h g)).drewN (n+(y+nq)+1):=by
      rw[Q.y,af.y,gp,L.y h,L.y g];exact tQ T w l m c _ h g (by omega) (by omega)
     have aF:=H aB;clear aB J ae P an aj Q af L A O M
     go_loopw [10,11] (fun W z wr=>∃(i j n:Nat)(c:Array (Int)),W= .int .i64 i/\z= .int .i64 j/\a<i/\i<=j+1/\j<b/\c.size=d.size/\wr=(putRow T w l m c).drewN n/\
      Sort.partLoop Sort.ltInt a i j c=R)
      (fun W z _=>(intOf z).toNat+1-(intOf W).toNat)
     case atStart=>exact⟨h+1,g-1,_,Sort.swp c h g,by go_num,by go_num,by omega,by omega,by omega,by rw[size_swp];exact ak,aE,aF.y.s⟩
     clear aE aF;obtain⟨i,j,n,c,rfl,rfl,aI,ar,aJ,ak,N,aE⟩:=hrel
     rename World=>W1
     have aB:=H aE;clear aE;have ag:Holds T W1 l m c:=by
      rw[N];exact holds_putRow T w l m d c aC.y ak
     obtain⟨r,E⟩:∃r:Nat->Int,∀t,r t=c[t]!:=⟨fun t=>c[t]!,fun _=>rfl⟩
     have J:∀t,t<d.size->W1.cell? ⟨l,m+t,none⟩=some (.int .u8 (r t)):=fun t o=>by rw[E];exact(ag t (by omega)).1
     have ae:∀t,t<d.size->W1.frozen? ⟨l,m+t,none⟩=false:=fun t o=>(ag t (by omega)).2;have L:=H E;have A:Hid (∀t,(r t)=c[t]!):=fun t=>by rw[E]
     have af:=H N;clear E N ag;go_wp2
     go_loopw [10] (fun W ay=>∃(h F:Nat),W= .int .i64 h/\i<=h/\h<=j+1/\ay=W1.drewN F/\
      Hid (Sort.scanUp (fun x=>Sort.ltInt x c[a]!) c j h=Sort.scanUp (fun x=>Sort.ltInt x c[a]!) c j i))
      (fun W _=>j+1-(intOf W).toNat)
     case atStart=>exact⟨i,0,rfl,av _,ar,rfl,rfl⟩
     obtain⟨h,F,rfl,aK,al,ah,X⟩:=hrel;have I:∀t,t<d.size->wr.cell? ⟨l,m+t,none⟩=some (.int .u8 (r t)):=fun t o=>by rw[ah];exact J t o
     have aa:=H ah;clear ah;by_cases am:h<=j
     .go_wp2
      go_big_quiet (first|(go_at_call 212;refine fV (fH _ _ _)))
      go_wp2
      ·
       have o:Sort.ltInt (r h) (r a)=true:=by assumption
       go_roundw
       case rel=>exact⟨h+1,F+nq,by go_num,by omega,by omega,by rw[aa.y,gp],(scanUp_go (fun x=>Sort.ltInt x c[a]!) c j h am (by rw[<-A.y a,<-A.y h];exact o)).s.t X.y⟩
       simp[intOf];omega
      ·
       have o:Sort.ltInt (r h) (r a)=false:=by assumption
       have O:Hid (h=Sort.scanUp (fun x=>Sort.ltInt x c[a]!) c j i):=(BA (fun x=>Sort.ltInt x c[a]!) c j h (Or.inr (by rw[<-A.y a,<-A.y h];exact o))).s.t X.y;clear o;have v:wr.drewN nq=W1.drewN (F+nq):=by rw[aa.y,gp]
       clear I aa X
       go_loopw [11] (fun z ai=>∃(g y:Nat),z= .int .i64 g/\g<=j/\h<=g+1/\ai=W1.drewN y/\
        Hid (Sort.scanDown (fun x=>!Sort.ltInt x c[a]!) c h g=Sort.scanDown (fun x=>!Sort.ltInt x c[a]!) c h j))
        (fun z _=>(intOf z).toNat)
       case atStart=>exact⟨j,F+nq,rfl,av _,al,v,rfl⟩
       clear v;obtain⟨g,y,rfl,az,aA,v,C⟩:=hrel;have I:∀t,t<d.size->wr.cell? ⟨l,m+t,none⟩=some (.int .u8 (r t)):=fun t o=>by rw[v];exact J t o
       have ab:=H v;clear v;by_cases ad:h<=g
       .go_wp2
        go_big_quiet (first|(go_at_call 212;refine fV (fH _ _ _)))
        go_wp2
        ·
         have o:(!Sort.ltInt (r g) (r a))=true:=by assumption
         go_roundw
         case rel=>exact⟨g-1,y+nq,by go_num,by omega,by omega,by rw[ab.y,gp],(scanDown_go (fun x=>!Sort.ltInt x c[a]!) c h g ad (by omega) (by rw[<-A.y a,<-A.y g];exact o)).s.t C.y⟩
         simp[intOf];omega
        ·
         have o:(!Sort.ltInt (r g) (r a))=false:=by assumption
         have M:Hid (g=Sort.scanDown (fun x=>!Sort.ltInt x c[a]!) c h j):=(tF (fun x=>!Sort.ltInt x c[a]!) c h g (Or.inr (by rw[<-A.y a,<-A.y g];exact o))).s.t C.y;clear I C o;have s:wr.drewN nq=W1.drewN (y+nq):=by rw[ab.y,gp]
         generalize wr.drewN nq=W3 at s⊢;have P:∀t,t<d.size->W3.cell? ⟨l,m+t,none⟩=some (.int .u8 (r t)):=fun t o=>by rw[s];exact J t o
         have an:∀t,t<d.size->W3.frozen? ⟨l,m+t,none⟩=false:=fun t o=>by rw[s];exact ae t o
         have Q:=H s;clear s;obtain⟨ao,aj⟩:=tg (w:=W3) (p:=⟨l,m+h,none⟩) (x:= .int .u8 (r g)) (q:=⟨l,m+g,none⟩) (P g (by omega));have:=part_scans_lt Sort.ltInt a i j c (by omega) O.y M.y ad;go_wp2;go_region
         all_goals go_wp2
         all_goals go_roundw
         case rel=>
          refine⟨h+1,g-1,n+(y+nq)+1,Sort.swp c h g,by go_num,by go_num,by omega,by omega,by omega,by rw[size_swp];exact ak,?_,?_⟩
          .rw[Q.y,af.y,gp,L.y h,L.y g];exact tQ T w l m c _ h g (by omega) (by omega)
          exact(part_go Sort.ltInt a i j c O.y M.y (by omega)).s.t aB.y
         simp[intOf];omega
       go_wp2
       go_big_quiet (first|(go_at_call 212;refine fV (fH _ _ _)))
       have M:Hid (g=Sort.scanDown (fun x=>!Sort.ltInt x c[a]!) c h j):=(tF (fun x=>!Sort.ltInt x c[a]!) c h g (Or.inl ad)).s.t C.y;clear I C;have s:wr.drewN nq=W1.drewN (y+nq):=by rw[ab.y,gp]
       generalize wr.drewN nq=W3 at s⊢;have P:∀t,t<d.size->W3.cell? ⟨l,m+t,none⟩=some (.int .u8 (r t)):=fun t o=>by rw[s];exact J t o
       have an:∀t,t<d.size->W3.frozen? ⟨l,m+t,none⟩=false:=fun t o=>by rw[s];exact ae t o
       have Q:=H s;clear s;obtain⟨ao,aj⟩:=tg (w:=W3) (p:=⟨l,m+g,none⟩) (x:= .int .u8 (r a)) (q:=⟨l,m+a,none⟩) (P a (by omega));have N:g<d.size:=by omega
       go_wp2;go_region
       all_goals go_wp2
       all_goals go_ret2
       have e:Sort.partition Sort.ltInt d a b u=(g,false,Sort.swp c g a):=by
        have E:=(part_break Sort.ltInt a i j c O.y M.y (by omega)).s.t aB.y;rw[aD.y,<-E]
       refine⟨?_,n+(y+nq)+1,?_⟩
       .rw[e];rfl
       rw[e,Q.y,af.y,gp,L.y a,L.y g];exact tQ T w l m c _ g a (by omega) (by omega)
     go_wp2
     go_big_quiet (first|(go_at_call 212;refine fV (fH _ _ _)))
     go_wp2;have O:Hid (h=Sort.scanUp (fun x=>Sort.ltInt x c[a]!) c j i):=(BA (fun x=>Sort.ltInt x c[a]!) c j h (Or.inl am)).s.t X.y;have v:wr.drewN nq=W1.drewN (F+nq):=by rw[aa.y,gp]
     clear I aa X
     go_loopw [11] (fun z ai=>∃(g y:Nat),z= .int .i64 g/\g<=j/\h<=g+1/\ai=W1.drewN y/\
      Hid (Sort.scanDown (fun x=>!Sort.ltInt x c[a]!) c h g=Sort.scanDown (fun x=>!Sort.ltInt x c[a]!) c h j))
      (fun z _=>(intOf z).toNat)
     case atStart=>exact⟨j,F+nq,rfl,av _,al,v,rfl⟩
     clear v;obtain⟨g,y,rfl,az,aA,v,C⟩:=hrel;have I:∀t,t<d.size->wr.cell? ⟨l,m+t,none⟩=some (.int .u8 (r t)):=fun t o=>by rw[v];exact J t o
     have ab:=H v;clear v;by_cases ad:h<=g
     .exfalso;omega
     go_wp2
     go_big_quiet (first|(go_at_call 212;refine fV (fH _ _ _)))
     have M:Hid (g=Sort.scanDown (fun x=>!Sort.ltInt x c[a]!) c h j):=(tF (fun x=>!Sort.ltInt x c[a]!) c h g (Or.inl ad)).s.t C.y;clear I C;have s:wr.drewN nq=W1.drewN (y+nq):=by rw[ab.y,gp]
     generalize wr.drewN nq=W3 at s⊢;have P:∀t,t<d.size->W3.cell? ⟨l,m+t,none⟩=some (.int .u8 (r t)):=fun t o=>by rw[s];exact J t o
     have an:∀t,t<d.size->W3.frozen? ⟨l,m+t,none⟩=false:=fun t o=>by rw[s];exact ae t o
     have Q:=H s;clear s;obtain⟨ao,aj⟩:=tg (w:=W3) (p:=⟨l,m+g,none⟩) (x:= .int .u8 (r a)) (q:=⟨l,m+a,none⟩) (P a (by omega));have N:g<d.size:=by omega
     go_wp2;go_region
     all_goals go_wp2
     all_goals go_ret2
     have e:Sort.partition Sort.ltInt d a b u=(g,false,Sort.swp c g a):=by
      have E:=(part_break Sort.ltInt a i j c O.y M.y (by omega)).s.t aB.y;rw[aD.y,<-E]
     refine⟨?_,n+(y+nq)+1,?_⟩
     .rw[e];rfl
     rw[e,Q.y,af.y,gp,L.y a,L.y g];exact tQ T w l m c _ g a (by omega) (by omega)
   go_wp2
   go_big_quiet (first|(go_at_call 212;refine fV (fH _ _ _)))
   have M:Hid (g=Sort.scanDown (fun x=>!Sort.ltInt x c[a]!) c h j):=(tF (fun x=>!Sort.ltInt x c[a]!) c h g (Or.inl ad)).s.t C.y;clear I C;have s:wr.drewN nq=W1.drewN (y+nq):=by rw[ab.y,gp]
   generalize wr.drewN nq=W3 at s⊢;have P:∀t,t<d.size->W3.cell? ⟨l,m+t,none⟩=some (.int .u8 (r t)):=fun t o=>by rw[s];exact J t o
   have an:∀t,t<d.size->W3.frozen? ⟨l,m+t,none⟩=false:=fun t o=>by rw[s];exact ae t o
   have Q:=H s;clear s;obtain⟨ao,aj⟩:=tg (w:=W3) (p:=⟨l,m+g,none⟩) (x:= .int .u8 (r a)) (q:=⟨l,m+a,none⟩) (P a (by omega));have N:g<d.size:=by omega
   go_wp2;go_region
   all_goals go_wp2
   all_goals go_ret2
   have e:Sort.partition Sort.ltInt d a b u=(g,true,Sort.swp c g a):=part_first_break Sort.ltInt d a b u au.y aw.y ax.y O.y M.y (by omega);refine⟨?_,n+(y+nq)+1,?_⟩
   .rw[e];rfl
   rw[e,Q.y,af.y,gp,L.y a,L.y g];exact tQ T w l m c _ g a (by omega) (by omega)
 go_wp2
 go_big_quiet (first|(go_at_call 212;refine fV (fH _ _ _)))
 go_wp2;have O:Hid (h=Sort.scanUp (fun x=>Sort.ltInt x c[a]!) c j i):=(BA (fun x=>Sort.ltInt x c[a]!) c j h (Or.inl am)).s.t X.y;have v:wr.drewN nq=W1.drewN (F+nq):=by rw[aa.y,gp]
 clear I aa X
 go_loopw [11] (fun z ai=>∃(g y:Nat),z= .int .i64 g/\g<=j/\h<=g+1/\ai=W1.drewN y/\
  Hid (Sort.scanDown (fun x=>!Sort.ltInt x c[a]!) c h g=Sort.scanDown (fun x=>!Sort.ltInt x c[a]!) c h j))
  (fun z _=>(intOf z).toNat)
 case atStart=>exact⟨j,F+nq,rfl,av _,al,v,rfl⟩
 clear v;obtain⟨g,y,rfl,az,aA,v,C⟩:=hrel;have I:∀t,t<d.size->wr.cell? ⟨l,m+t,none⟩=some (.int .u8 (r t)):=fun t o=>by rw[v];exact J t o
 have ab:=H v;clear v;by_cases ad:h<=g
 .exfalso;omega
 go_wp2
 go_big_quiet (first|(go_at_call 212;refine fV (fH _ _ _)))
 have M:Hid (g=Sort.scanDown (fun x=>!Sort.ltInt x c[a]!) c h j):=(tF (fun x=>!Sort.ltInt x c[a]!) c h g (Or.inl ad)).s.t C.y;clear I C;have s:wr.drewN nq=W1.drewN (y+nq):=by rw[ab.y,gp]
 generalize wr.drewN nq=W3 at s⊢;have P:∀t,t<d.size->W3.cell? ⟨l,m+t,none⟩=some (.int .u8 (r t)):=fun t o=>by rw[s];exact J t o
 have:∀t,t<d.size->W3.frozen? ⟨l,m+t,none⟩=false:=fun t o=>by rw[s];exact ae t o
 have Q:=H s;clear s;obtain⟨ao,aj⟩:=tg (w:=W3) (p:=⟨l,m+g,none⟩) (x:= .int .u8 (r a)) (q:=⟨l,m+a,none⟩) (P a (by omega));have:g<d.size:=by omega
 go_wp2;go_region
 all_goals go_wp2
 all_goals go_ret2
 have e:Sort.partition Sort.ltInt d a b u=(g,true,Sort.swp c g a):=part_first_break Sort.ltInt d a b u au.y aw.y ax.y O.y M.y (by omega);refine⟨?_,n+(y+nq)+1,?_⟩
 .rw[e];rfl
 rw[e,Q.y,af.y,gp,L.y a,L.y g];exact tQ T w l m c _ g a (by omega) (by omega)
def Zm(g h i a b c:Nat)(d:Array (Int))(w:World)(j:Holds T w g h d)(l:a<=c)(m:c<b)(o:b<=d.size)(p:d.size<4611686018427387904):
 Calls prog 214 #[.slice (some ⟨g,h,none⟩) d.size i,.int .i64 a,.int .i64 b,.int .i64 c] w fun e q=>
  e= .returned (.tuple #[.int .i64 (Sort.partition Sort.ltInt d a b c).1,.bool (Sort.partition Sort.ltInt d a b c).2.1])/\∃n,q=putRow T (Sort.ahead w n) g h (Sort.partition Sort.ltInt d a b c).2.2:=
 (Wz g h i a b c d w j l m o p).m fun _ _ ⟨r,n,s⟩=>⟨r,n,s⟩
end
section
open Go.Sort
def CA{w}{f off sb so n t}{d}(h:Holds T w f off d)(b:sb≠f):Holds T (putRow (Value.int .i64) (Sort.ahead w n) sb so (one t)) f off d:=fun j a=>
 ⟨by rw[cell?_putRow_other _ _ _ _ _ _ (Or.inl (Ne.s b))];exact(h j a).1,by rw[frozen?_putRow];exact(h j a).2⟩
def Kr(d:Array (Int))(j:Nat)(v:d.size=j)(l m x a b c g s:Nat)(w:World)(o:Holds T w l m d)(p:a<d.size)(q:b<d.size)
 (h:Holds (Value.int .i64) w c g (one s))(y:s<2^62):
 Calls prog 246 #[.slice (some ⟨l,m,none⟩) j x,.int .i64 a,.int .i64 b,.pointer (some ⟨c,g,none⟩)] w fun e r=>
  e= .returned (.tuple #[.int .i64 (order2 ltInt d a b s).1,.int .i64 (order2 ltInt d a b s).2.1])/\∃n,r=putRow (Value.int .i64) (Sort.ahead w n) c g (one (order2 ltInt d a b s).2.2):=by
 subst v
 replace y:s<4611686018427387904:=by omega
 have:=(o a p).1;have:=(o b q).1;have⟨cs,z⟩:=one_cell h;have t:=De d a p;have u:=De d b q;go_enter func246,ntmps246;go_wp2
 go_region_with (go_at_call 212;refine(fH _ _ _).m ?_;rintro e r ⟨rfl,rfl⟩)
 all_goals (try go_wp2)
 all_goals first
  |(have i:ltInt d[b] d[a]=true:=by assumption
    have e2:order2 ltInt d a b s=(b,a,s+1):=by simp[order2,t,u,i]
    go_ret2
    rw[e2];refine⟨rfl,1,?_⟩;rw[putRow_ahead,<-one_set h (s+1)];simp[drew_eq_ahead])
  |(have i:ltInt d[b] d[a]=false:=by assumption
    have e2:order2 ltInt d a b s=(a,b,s):=by simp[order2,t,u,i]
    go_ret2
    rw[e2];refine⟨rfl,1,?_⟩;rw[putRow_ahead,putRow_self _ _ _ _ _ h];rfl)
def Pg(d){a b n}(s)(c:a<n)(e:b<n):(order2 ltInt d a b s).1<n/\(order2 ltInt d a b s).2.1<n:=by
 have:=order2_mem ltInt d a b s;omega
def Nx(d)(a b s):(order2 ltInt d a b s).2.2<=s+1:=by
 unfold order2
 grind
def Nr(d)(len)(q:d.size=len)(f off cap a b c sb so s)(w)(h:Holds T w f off d)(m:a<d.size)(o:b<d.size)(p:c<d.size)(i:sb≠f)
 (j:Holds (Value.int .i64) w sb so (one s))(v:s+3<2^62):
 Calls prog 235 #[.slice (some ⟨f,off,none⟩) len cap,.int .i64 a,.int .i64 b,.int .i64 c,.pointer (some ⟨sb,so,none⟩)] w fun e g=>
  e=(Value.int .i64 (median ltInt d a b c s).1)/\∃n,g=putRow (Value.int .i64) (Sort.ahead w n) sb so (one (median ltInt d a b c s).2):=by
 subst q;have l:=Pg d s m o;have:=Nx d a b s;have:=Nx d (order2 ltInt d a b s).2.1 c (order2 ltInt d a b s).2.2;go_enter func235,ntmps235
 go_wp2_with (go_at_call_of 246 (Value.int .i64 (b:Int));refine(Kr d _ rfl f off cap a b sb so s w h m o j (by omega)).m ?_;rintro e g ⟨rfl,r,rfl⟩)
 go_wp2_with (go_at_call_of 246 (Value.int .i64 (c:Int));refine(Kr d _ rfl f off cap (order2 ltInt d a b s).2.1 c sb so (order2 ltInt d a b s).2.2 _ (CA h i) l.2 p (BQ j) (by omega)).m ?_;rintro e g ⟨rfl,t,rfl⟩)
 go_wp2_with (go_at_call_of 246 (Value.int .i64 ((order2 ltInt d a b s).1:Int));refine(Kr d _ rfl f off cap (order2 ltInt d a b s).1 (order2 ltInt d (order2 ltInt d a b s).2.1 c (order2 ltInt d a b s).2.2).1 sb so (order2 ltInt d (order2 ltInt d a b s).2.1 c (order2 ltInt d a b s).2.2).2.2 _
  (CA (CA h i) i) l.1 (Pg d (order2 ltInt d a b s).2.2 l.2 p).1 (BQ (BQ j)) (by omega)).m ?_;rintro e g ⟨rfl,u,rfl⟩)
 go_ret;refine⟨rfl,r+(t+u),?_⟩;rw[one_one,one_one];rfl
def X9(d)(len)(c:d.size=len)(f off cap a sb so s)(w)(g:Holds T w f off d)(p:1<=a)(h:a+1<d.size)(i:d.size<2^62)(j:sb≠f)
 (l:Holds (Value.int .i64) w sb so (one s))(m:s+3<2^62):
 Calls prog 234 #[.slice (some ⟨f,off,none⟩) len cap,.int .i64 a,.pointer (some ⟨sb,so,none⟩)] w fun e b=>
  e=(Value.int .i64 (medianAdjacent ltInt d a s).1)/\∃n,b=putRow (Value.int .i64) (Sort.ahead w n) sb so (one (medianAdjacent ltInt d a s).2):=by
 subst c
 replace i:d.size<4611686018427387904:=by omega
 go_enter func234,ntmps234
 go_wp2_with (go_at_call 235;rw[show((a:Int)-1)=((a-1:Nat):Int) by omega,show((a:Int)+1)=((a+1:Nat):Int) by omega];refine(Nr d _ rfl f off cap (a-1) a (a+1) sb so s w g (by omega) (by omega) h j l m).m ?_;rintro e b ⟨rfl,o,rfl⟩)
 go_ret;exact⟨rfl,o,rfl⟩
def aeF(f off cap)(d)(w)(q:Holds T w f off d)(r:f<w.1.size)(A:d.size<4611686018427387904):
 ∃b:Nat->Nat->World,
  w.alloc (.cells #[.int .i64 0] 3)=b 0 0/\
  (∀a S:Nat,(b a S).cell? (w.1.size:Nat)=some (.int .i64 (S:Int)))/\
  (∀a S:Nat,∃c,b a S=grow (Sort.ahead w a) c)/\
  (∀x s a:Nat,1<=x->x+1<d.size->s+3<4611686018427387904->Calls prog 234 #[.slice (some ⟨f,off,none⟩) d.size cap,.int .i64 (x:Int),.pointer (w.1.size:Nat)] (b a s) fun e c=>
    e= .returned (.int .i64 ((medianAdjacent ltInt d x s).1:Int))/\∃g,c=b g (medianAdjacent ltInt d x s).2)/\
  (∀x y z s a:Nat,x<d.size->y<d.size->z<d.size->s+3<4611686018427387904->Calls prog 235 #[.slice (some ⟨f,off,none⟩) d.size cap,.int .i64 (x:Int),.int .i64 (y:Int),.int .i64 (z:Int),.pointer (w.1.size:Nat)] (b a s) fun e c=>
    e= .returned (.int .i64 ((median ltInt d x y z s).1:Int))/\∃g,c=b g (median ltInt d x y z s).2):=by
 have g:w.1.size≠f:=by omega
 have p:Holds T (w.alloc (.cells #[.int .i64 0] 3)) f off d:=by rw[alloc_eq_grow];exact holds_grow _ _ _ _ _ _ r q
 have h:Holds (Value.int .i64) (w.alloc (.cells #[.int .i64 0] 3)) w.1.size 0 (one 0):=fun j C=>by
  simp_all
 refine⟨fun a S=>putRow (Value.int .i64) (Sort.ahead (w.alloc (.cells #[.int .i64 0] 3)) a) w.1.size 0 (one S),(putRow_self _ _ _ _ _ h).s,fun a S=>(one_cell (BQ (n:=a) (t:=S) h)).1,fun a S=>counter_grow w a S,?_,?_⟩
 .intro x s a i l u;refine(X9 d _ rfl f off cap x w.1.size 0 s _ (CA p g) i l (by omega) g (BQ h) (by omega)).m ?_;rintro e c ⟨m,n,o⟩;exact⟨m,a+n,by rw[o,one_one]⟩
 intro x y z s a i l v u;refine(Nr d _ rfl f off cap x y z w.1.size 0 s _ (CA p g) i l v g (BQ h) (by omega)).m ?_;rintro e c ⟨m,n,o⟩;exact⟨m,a+n,by rw[o,one_one]⟩
def ae0(r u A a b:Nat)(d:Array (Int))(w:World)(g:Holds T w r u d)(an:r<w)(av:a<b)(aw:b<=d.size)(ao:d.size<4611686018427387904):
 Calls prog 209 #[.slice (some ⟨r,u,none⟩) d.size A,.int .i64 a,.int .i64 b] w fun e c=>
  e= .returned (.tuple #[.int .i64 (choosePivot ltInt d a b).1,.int .i64 (hintCode (choosePivot ltInt d a b).2)])/\∃n C,c=grow (Sort.ahead w n) C:=by
 have⟨i,ai,ax,ab,F,P⟩:=aeF r u A d w g an ao;clear g;rw[choosePivot_eq];have⟨I,Q⟩:=eX (a+(b-a)/4*1:Nat);have⟨j,H⟩:=eX (a+(b-a)/4*2:Nat);have⟨K,R⟩:=eX (a+(b-a)/4*3:Nat);have:((a:Int)+((b:Int)-(a:Int))/4)=(I:Int):=by omega
 have:((a:Int)+((b:Int)-(a:Int))/4*2)=(j:Int):=by omega
 have:((a:Int)+((b:Int)-(a:Int))/4*3)=(K:Int):=by omega
 by_cases ad:b-a>=8
 .by_cases aj:b-a>=50
  ·
   obtain⟨J,v,l⟩:∃J v,medianAdjacent ltInt d I 0=(J,v):=⟨_,_,rfl⟩
   obtain⟨L,x,m⟩:∃L x,medianAdjacent ltInt d j v=(L,x):=⟨_,_,rfl⟩
   obtain⟨M,N,W⟩:∃M N,medianAdjacent ltInt d K x=(M,N):=⟨_,_,rfl⟩
   obtain⟨p,s,E⟩:∃p s,median ltInt d J L M N=(p,s):=⟨_,_,rfl⟩
   have y:rawPivot ltInt d a b=(p,s):=by simp only[rawPivot,aq ad,aq aj,<-Q,<-H,<-R,l,m,W,E]
   have ae:=medianAdjacent_mem ltInt d I 0;rw[l]at ae;have af:=medianAdjacent_mem ltInt d j v;rw[m]at af;have ag:=medianAdjacent_mem ltInt d K x;rw[W]at ag;have ak:=medianAdjacent_count ltInt d I 0;rw[l]at ak;have al:=medianAdjacent_count ltInt d j v;rw[m]at al;have am:=medianAdjacent_count ltInt d K x;rw[W]at am;simp only[]at ae af ag ak al am;have ap:Calls prog 234 #[.slice (some ⟨r,u,none⟩) d.size A,(I:Int),.pointer w] (i 0 0) fun e c=>e=(Value.int .i64 (J:Int))/\∃t,c=i t v:=by
    have h:=F I 0 0 (by omega) (by omega) (by omega);rw[l]at h;exact h
   have ar:∀o,Calls prog 234 #[.slice (some ⟨r,u,none⟩) d.size A,(j:Int),.pointer w] (i o v) fun e c=>e=(Value.int .i64 (L:Int))/\∃t,c=i t x:=fun o=>by
    have h:=F j v o (by omega) (by omega) (by omega);rw[m]at h;exact h
   have au:∀o,Calls prog 234 #[.slice (some ⟨r,u,none⟩) d.size A,(K:Int),.pointer w] (i o x) fun e c=>e=(Value.int .i64 (M:Int))/\∃t,c=i t N:=fun o=>by
    have h:=F K x o (by omega) (by omega) (by omega);rw[W]at h;exact h
   have ah:∀o,Calls prog 235 #[.slice (some ⟨r,u,none⟩) d.size A,(J:Int),(L:Int),(M:Int),.pointer w] (i o N) fun e c=>e=(Value.int .i64 (p:Int))/\∃t,c=i t s:=fun o=>by
    have h:=P J L M N o (by omega) (by omega) (by omega) (by omega);rw[E]at h;exact h
   rw[y];have⟨q,g⟩:=eX (hintCode (hintOf s):Int);have z:s=0->q=1:=fun h=>by rw[g,h];rfl
   have X:s=12->q=2:=fun h=>by rw[g,h];rfl
   have aa:s≠0->s≠12->q=0:=fun l m=>by rw[g];unfold hintOf;rw[O l,O m];rfl
   show Calls prog 209 _ w fun e c=>e=(Value.tuple #[(p:Int),(hintCode (hintOf s))])/\∃n C,c=grow (Sort.ahead w n) C;rw[<-g];clear g y;clear l m W E F P Q H R ae af ag;go_enter func209,ntmps209
   go_wp2_with (first
    |(go_at_call_has 234 (Value.int .i64 (I:Int));refine ap.m ?_;rintro e c ⟨rfl,W,rfl⟩)
    |(go_at_call_has 234 (Value.int .i64 (j:Int));refine(ar _).m ?_;rintro e c ⟨rfl,af,rfl⟩)
    |(go_at_call_has 234 (Value.int .i64 (K:Int));refine(au _).m ?_;rintro e c ⟨rfl,ag,rfl⟩)
    |(go_at_call 235;refine(ah _).m ?_;rintro e c ⟨rfl,ae,rfl⟩))
   all_goals
    go_ret2
    refine⟨?_,_,ab _ _⟩
    first
     |(have W:=zx (by assumption)
       rw[z (by omega)];rfl)
     |(have e1:=zx (by assumption)
       rw[X (by omega)];rfl)
     |(have W:(s:Int)≠0:=zK (by assumption)
       have e1:(s:Int)≠12:=zK (by assumption);rw[aa (by omega) (by omega)];rfl)
     |(rw[z (by omega)];rfl)
  ·
   obtain⟨p,s,E⟩:∃p s,median ltInt d I j K 0=(p,s):=⟨_,_,rfl⟩
   have y:rawPivot ltInt d a b=(p,s):=by simp only[rawPivot,aq ad,O aj,<-Q,<-H,<-R,E]
   have ah:Calls prog 235 #[.slice (some ⟨r,u,none⟩) d.size A,(I:Int),(j:Int),(K:Int),.pointer w] (i 0 0) fun e c=>e=(Value.int .i64 (p:Int))/\∃t,c=i t s:=by
    have h:=P I j K 0 0 (by omega) (by omega) (by omega) (by omega);rw[E]at h;exact h
   rw[y];have⟨q,g⟩:=eX (hintCode (hintOf s):Int);have z:s=0->q=1:=fun h=>by rw[g,h];rfl
   have X:s=12->q=2:=fun h=>by rw[g,h];rfl
   have aa:s≠0->s≠12->q=0:=fun l m=>by rw[g];unfold hintOf;rw[O l,O m];rfl
   show Calls prog 209 _ w fun e c=>e=(Value.tuple #[(p:Int),(hintCode (hintOf s))])/\∃n C,c=grow (Sort.ahead w n) C;rw[<-g];clear g y;clear E F P Q H R;go_enter func209,ntmps209
   go_wp2_with (first|(go_at_call 235;refine ah.m ?_;rintro e c ⟨rfl,ae,rfl⟩))
   all_goals
    go_ret2
    refine⟨?_,_,ab _ _⟩
    first
     |(have W:=zx (by assumption)
       rw[z (by omega)];rfl)
     |(have e1:=zx (by assumption)
       rw[X (by omega)];rfl)
     |(have W:(s:Int)≠0:=zK (by assumption)
       have e1:(s:Int)≠12:=zK (by assumption);rw[aa (by omega) (by omega)];rfl)
     |(rw[z (by omega)];rfl)
 ·
  have⟨p,E⟩:=eX (j:Nat);have⟨s,ae⟩:=eX (0:Nat);have y:rawPivot ltInt d a b=(p,s):=by simp only[rawPivot,O ad,<-H,E,ae]
  rw[y];have⟨q,g⟩:=eX (hintCode (hintOf s):Int);have z:s=0->q=1:=fun h=>by rw[g,h];rfl
  have X:s=12->q=2:=fun h=>by rw[g,h];rfl
  have aa:s≠0->s≠12->q=0:=fun l m=>by rw[g];unfold hintOf;rw[O l,O m];rfl
  show Calls prog 209 _ w fun e c=>e=(Value.tuple #[(p:Int),(hintCode (hintOf s))])/\∃n C,c=grow (Sort.ahead w n) C;rw[<-g];clear g y;subst E;clear F P Q H R;have:w.alloc (.cells #[.int .i64 0] 3)=i 0 s:=by rw[ae];exact ai
  clear ai;go_enter func209,ntmps209;go_wp2
  all_goals
   go_ret2
   refine⟨?_,_,ab _ _⟩
   first
    |(have W:=zx (by assumption)
      rw[z (by omega)];rfl)
    |(have e1:=zx (by assumption)
      rw[X (by omega)];rfl)
    |(have:=zK (by assumption)
      have:=zK (by assumption);rw[aa (by omega) (by omega)];rfl)
    |(rw[z (by omega)];rfl)
end
end Go.Proofs.YtilhngjecfdgpaaGreatDoor
namespace Go.Proofs
def Tryz.X4:Shelf.Ren:=⟨fun|125=>82|128=>133|129=>134|n=>n,fun|46=>167|3=>3|51=>194|53=>49|4=>4|5=>5|9=>9|n=>n,fun|n=>n⟩
def Tryz.Vu:Lays.n125 Tryz.prog Tryz.X4:=⟨by kernel_rfl,Tryz.func82.t (cs (by kernel_rfl)),Tryz.func133.t (cs (by kernel_rfl)),Tryz.func134.t (cs (by kernel_rfl)),Gp,Ge,FK,FQ,FV,Fx,EB,Fj,Tryz.underlying5,Tryz.isAgg5,Tryz.sizeOf5,Tryz.zeroValue5,Mi,Tryz.isAgg9,Tryz.sizeOf9,Tryz.zeroValue9,Tryz.underlying167,Tryz.isAgg167,Tryz.sizeOf167,Tryz.zeroValue167,Tryz.underlying194,Tryz.isAgg194,Tryz.sizeOf194,Tryz.zeroValue194,Tryz.underlying49,Tryz.isAgg49,Tryz.sizeOf49,Tryz.zeroValue49⟩
end Go.Proofs
namespace Go.Proofs.YtilhngjecfdgpaaGreatDoor
open Go.RowKit Go.Shelf Go.Proofs.Tryz
section
open Go.Sort
def PW(x)(w)(a:0<=x)(b:x<=18446744073709551615):
 Calls prog 82 #[.int .u64 x] w fun e c=>e=(Value.int .i64 (Lib.bitLen x.toNat))/\c=w:=Any.bits_Len Vu x w a b
def XR(b c a:Nat)(j:a<18446744073709551616)(w:World)(p:w.cell? ⟨b,c,none⟩=some (.int .u64 a))(q:w.frozen? ⟨b,c,none⟩=false):
 Calls prog 195 #[.pointer (some ⟨b,c,none⟩)] w fun e l=>e= .returned (.int .u64 (xorNextN a:Nat))/\l=(w.setCell ⟨b,c,none⟩ (.int .u64 (xorNextN a:Nat))).drewN 3:=by
 have⟨A,f⟩:=eX (a^^^(a*8192%18446744073709551616):Nat);have⟨B,g⟩:=eX (A^^^(A/128):Nat);have⟨C,h⟩:=eX (B^^^(B*131072%18446744073709551616):Nat);have m:A<18446744073709551616:=by rw[f];exact Ur (n:=64) (by omega) (by omega)
 have o:B<18446744073709551616:=by rw[g];exact Ur (n:=64) (by omega) (by omega)
 have:bits .xor .u64 (a:Int) (IntKind.u64.wrap ((a:Int)*8192))=(A:Int):=by
  rw[ya,show((a:Int)*8192%18446744073709551616)=((a*8192%18446744073709551616:Nat):Int) by omega,MC _ _ j (by omega),f]
 have:bits .xor .u64 (A:Int) ((A:Int)/128)=(B:Int):=by
  rw[show((A:Int)/128)=((A/128:Nat):Int) by omega,MC _ _ m (by omega),g]
 have:bits .xor .u64 (B:Int) (IntKind.u64.wrap ((B:Int)*131072))=(C:Int):=by
  rw[ya,show((B:Int)*131072%18446744073709551616)=((B*131072%18446744073709551616:Nat):Int) by omega,MC _ _ o (by omega),h]
 have i:xorNextN a=C:=by unfold xorNextN;simp only[];rw[<-f,<-g,<-h]
 rw[i];clear f g h i;have:∀v f,(w.setCell ⟨b,c,none⟩ v).setCell ⟨b,c,none⟩ f=w.setCell ⟨b,c,none⟩ f:=setCell_setCell w b c;go_enter func195,ntmps195;go_wp2;go_region
 all_goals go_wp2
 all_goals go_region
 all_goals go_wp2
 all_goals go_region
 all_goals go_wp2
 go_ret;exact⟨rfl,rfl⟩
def Yu(n:Nat)(f:n<4611686018427387904)(w:World):
 Calls prog 194 #[.int .i64 n] w fun e a=>e=(Value.int .u64 ((1<<<bitsLen n:Nat):Int))/\a=w:=by
 have b:∀w,Calls prog 82 #[.int .u64 (n:Int)] w fun e a=>e=(Value.int .i64 (bitsLen n:Nat))/\a=w:=fun w=>by
  have h:=PW (n:Int) w (by omega) (by omega);rwa[sf,bitLen_eq _ (by omega)]at h
 have c:=(bitsLen_le_iff n 62).2 (by omega);have:=wrap_two_pow (bitsLen n) c;go_enter func194,ntmps194
 go_wp2_with (first|(go_at_call 82;refine(b _).m ?_;rintro e a ⟨rfl,rfl⟩))
 go_ret;exact⟨rfl,rfl⟩
def agI(c h P a L:Nat)(d:Array (Int))(w:World)(C:Holds T w c h d)(m:c<w)(ag:a+L<=d.size)(ah:d.size<4611686018427387904)(Q:8<=L):
 Calls prog 208 #[.slice (some ⟨c,h,none⟩) d.size P,.int .i64 a,.int .i64 ((a+L:Nat):Int)] w fun e i=>
  e=(Value.tuple #[])/\∃n W,i=grow (putRow T (Sort.ahead w n) c h (breakPatterns d a (a+L))) W:=by
 rw[breakPatterns_eq d a L Q];have⟨M,b⟩:=eX (1<<<bitsLen L:Nat);have:1<=M:=by rw[b,Nat.one_shiftLeft];exact Nat.two_pow_pos _
 have:M<=2*L:=by rw[b,Nat.one_shiftLeft];exact two_pow_bitsLen_le (by omega)
 have X:∀w,Calls prog 194 #[(L:Int)] w fun e i=>e=(Value.int .u64 (M:Int))/\i=w:=by rw[b];exact fun w=>Yu L (by omega) w
 rw[<-b];clear b;have E:=H C;have aa:Hid (w.alloc (Obj.cells #[.int .u64 (L:Int)] 290)=grow (putRow T (Sort.ahead w 0) c h d) #[Obj.cells #[.int .u64 ((UInt64.ofNat L).toNat:Int)] 290]):=by
  show _=_;rw[show Sort.ahead w 0=w from rfl,putRow_self _ _ _ _ _ C,alloc_eq_grow,show(UInt64.ofNat L).toNat=L from by simp;omega]
 go_enter func208,ntmps208
 go_wp2_with (first|(go_at_call 194;rw[show((a:Int)+(L:Int)-(a:Int))=(L:Int) by omega];refine(X _).m ?_;rintro e i ⟨rfl,rfl⟩))
 go_loopw [9] (fun g wr=>∃(t n:Nat)(r:UInt64)(b:Array (Int)),g= .int .i64 ((a+L/4*2-1+t:Nat):Int)/\t<=3/\b.size=d.size/\
  wr=grow (putRow T (Sort.ahead w n) c h b) #[Obj.cells #[.int .u64 (r.toNat:Int)] 290]/\
  bpRest a L M (a+L/4*2-1) (3-t) t (r,b)=bpRest a L M (a+L/4*2-1) 3 0 (UInt64.ofNat L,d)) (fun g _=>a+L/4*2+3-(intOf g).toNat)
 case atStart=>exact⟨0,0,UInt64.ofNat L,d,by congr 1;omega,by omega,rfl,aa.y,rfl⟩
 obtain⟨t,n,r,b,rfl,ai,v,l,F⟩:=hrel;have⟨R,o⟩:=eX (r.toNat:Nat);have I:R<18446744073709551616:=by rw[o];exact r.toNat_lt
 have⟨j,p⟩:=eX (xorNextN R:Nat);have ab:j<18446744073709551616:=by rw[p];exact xorNextN_lt R I
 have⟨g,q⟩:=eX (j&&&(M-1):Nat);have:g<=M-1:=by rw[q];exact Nat.and_le_right
 have:bits .and .u64 (j:Int) ((M:Int)-1)=(g:Int):=by
  rw[show((M:Int)-1)=((M-1:Nat):Int) by omega,bits_and_u64_nat _ _ ab (by omega),q]
 obtain⟨G,y⟩:∃G:Nat->Int,∀x,G x=b[x]!:=⟨fun x=>b[x]!,fun _=>rfl⟩
 have s:(putRow T (Sort.ahead w n) c h b).1.size=w:=by simp
 have:∀x,x<d.size->wr.cell? ⟨c,h+x,none⟩=some (.int .u8 ((G x))):=fun x J=>by
  rw[l,cell?_grow _ _ _ (by rw[s];exact m),y];exact cell?_putRow _ _ _ _ d b (holds_ahead _ _ _ _ _ _ E.y) v x (by omega)
 have:∀x,x<d.size->wr.frozen? ⟨c,h+x,none⟩=false:=fun x J=>by
  rw[l,frozen?_grow _ _ _ (by rw[s];exact m),frozen?_putRow];exact((holds_ahead _ _ n _ _ _ E.y) x J).2
 have ad:wr.cell? w=some (.int .u64 (R:Int)):=by rw[l,o,<-s];exact grow_one_cell _ _ _
 have ae:wr.frozen? w=false:=by rw[l,<-s];exact grow_one_frozen _ _ _
 have af:Calls prog 195 #[.pointer w] wr fun e i=>e=(Value.int .u64 (j:Int))/\i=(wr.setCell w (.int .u64 (j:Int))).drewN 3:=by
  rw[p];exact XR _ _ R I wr ad ae
 have z:=H l;have N:=H y;have A:=H F;have u:Hid (j=(xorNext r).toNat/\g=(xorNext r).toNat&&&(M-1)):=by
  have e:j=(xorNext r).toNat:=by rw[p,o,xorNext_toNat]
  exact⟨e,by rw[q,e]⟩
 clear l y F o p q
 go_wp2_with (first|(go_at_call 195;refine af.m ?_;rintro e i ⟨rfl,rfl⟩))
 ·
  have o:L<=g:=by omega
  by_cases l:a+L/4*2-1+t=a+(g-L)
  all_goals
   go_region
   all_goals go_wp2
   go_roundw
   case rel=>
    refine⟨t+1,n+4,xorNext r,swp b (a+L/4*2-1+t) (a+(g-L)),by first|rfl|(congr 1<;>omega),by omega,by rw[size_swp];exact v,?_,?_⟩
    ·(try rw[l])
     rw[z.y,u.a];simp only[N.y];exact step_world T w n 4 c h b _ _ m (by omega) (by omega) _ _ _
    rw[<-A.y,bp_step a L M _ t r b (g-L) (by omega) (by rw[<-u.B,aq (by omega)])]
   simp[intOf];omega
 .have:¬L<=g:=by omega
  by_cases l:a+L/4*2-1+t=a+g
  all_goals
   go_region
   all_goals go_wp2
   go_roundw
   case rel=>
    refine⟨t+1,n+4,xorNext r,swp b (a+L/4*2-1+t) (a+g),by first|rfl|(congr 1<;>omega),by omega,by rw[size_swp];exact v,?_,?_⟩
    ·(try rw[l])
     rw[z.y,u.a];simp only[N.y];exact step_world T w n 4 c h b _ _ m (by omega) (by omega) _ _ _
    rw[<-A.y,bp_step a L M _ t r b g (by omega) (by rw[<-u.B,O (by omega)])]
   simp[intOf];omega
 ·
  obtain rfl:t=3:=by omega
  go_end0
  exact⟨rfl,n,_,by rw[<-A.y,z.y];rfl⟩
def afi(c g i a b:Nat)(d:Array (Int))(w:World)(h:Holds T w c g d)(l:c<w.1.size)(t:a<=b)(m:b<=d.size)(o:d.size<4611686018427387904):
 Calls prog 208 #[.slice (some ⟨c,g,none⟩) d.size i,.int .i64 a,.int .i64 b] w fun e p=>
  e= .returned (.tuple #[])/\∃n q,p=grow (putRow T (Sort.ahead w n) c g (breakPatterns d a b)) q:=by
 obtain⟨L,rfl⟩:∃L,b=a+L:=⟨b-a,by omega⟩
 by_cases j:8<=L
 .exact agI c g i a L d w h l m o j
 have r:breakPatterns d a (a+L)=d:=by unfold breakPatterns;simp only[tE];rw[O j]
 rw[r];have s:Hid (w=grow (putRow T (Sort.ahead w 0) c g d) #[]):=by
  show _=_;rw[grow_empty,show Sort.ahead w 0=w from rfl,putRow_self _ _ _ _ _ h]
 clear h;go_enter func208,ntmps208;go_wp2
 go_end0
 exact⟨rfl,0,#[],s.y⟩
end
set_option maxRecDepth 1000000
section
open Go.Sort
def Pa:Prop:=∀(c g h a b limit:Nat)(d:Array Int)(w:World),Holds T w c g d->c<w.1.size->a<=b->b<=d.size->d.size<4611686018427387904->limit<4611686018427387904->Below ltInt a b d->
 Calls prog 164 #[.slice (some ⟨c,g,none⟩) d.size h,.int .i64 a,.int .i64 b,.int .i64 limit] w fun e i=>
  e= .returned (.tuple #[])/\∃n j,i=grow (putRow T (Sort.ahead w n) c g (Sort.pdq ltInt d a b limit true true)) j
structure Oi:Prop where
 ins:∀(f off cap a b:Nat)(d:Array (Int))(w:World),Holds T w f off d->a<=b->b<=d.size->d.size<4611686018427387904->
  Calls prog 206 #[.slice (some ⟨f,off,none⟩) d.size cap,.int .i64 a,.int .i64 b] w fun e w'=>e= .returned (.tuple #[])/\∃n,w'=putRow T (Sort.ahead w n) f off (insertionSort ltInt d a b)
 brk:∀(f off cap a b:Nat)(d:Array (Int))(w:World),Holds T w f off d->f<w.1.size->a<=b->b<=d.size->d.size<4611686018427387904->
  Calls prog 208 #[.slice (some ⟨f,off,none⟩) d.size cap,.int .i64 a,.int .i64 b] w fun e w'=>e= .returned (.tuple #[])/\∃n os,w'=grow (putRow T (Sort.ahead w n) f off (breakPatterns d a b)) os
 piv:∀(f off cap a b:Nat)(d:Array (Int))(w:World),Holds T w f off d->f<w.1.size->a<b->b<=d.size->d.size<4611686018427387904->
  Calls prog 209 #[.slice (some ⟨f,off,none⟩) d.size cap,.int .i64 a,.int .i64 b] w fun e w'=>e= .returned (.tuple #[.int .i64 (choosePivot ltInt d a b).1,.int .i64 (hintCode (choosePivot ltInt d a b).2)])/\∃n os,w'=grow (Sort.ahead w n) os
 par:∀(f off cap a b:Nat)(d:Array (Int))(w:World),Holds T w f off d->a<b->b<=d.size->d.size<4611686018427387904->
  Calls prog 211 #[.slice (some ⟨f,off,none⟩) d.size cap,.int .i64 a,.int .i64 b] w fun e w'=>e= .returned (.bool (partialInsertionSort ltInt d a b).2)/\∃n,w'=putRow T (Sort.ahead w n) f off (partialInsertionSort ltInt d a b).1
 peq:∀(f off cap a b pivot:Nat)(d:Array (Int))(w:World),Holds T w f off d->a<=pivot->pivot<b->b<=d.size->d.size<4611686018427387904->
  Calls prog 213 #[.slice (some ⟨f,off,none⟩) d.size cap,.int .i64 a,.int .i64 b,.int .i64 pivot] w fun e w'=>e= .returned (.int .i64 (partitionEqual ltInt d a b pivot).1)/\∃n,w'=putRow T (Sort.ahead w n) f off (partitionEqual ltInt d a b pivot).2
 prt:∀(f off cap a b pivot:Nat)(d:Array (Int))(w:World),Holds T w f off d->a<=pivot->pivot<b->b<=d.size->d.size<4611686018427387904->
  Calls prog 214 #[.slice (some ⟨f,off,none⟩) d.size cap,.int .i64 a,.int .i64 b,.int .i64 pivot] w fun e w'=>e= .returned (.tuple #[.int .i64 (partition ltInt d a b pivot).1,.bool (partition ltInt d a b pivot).2.1])/\∃n,w'=putRow T (Sort.ahead w n) f off (partition ltInt d a b pivot).2.2
structure Qp:Prop where
 swo:SWO ltInt
 ins:insertionSort_stmt ltInt
 par:partialInsertionSort_stmt ltInt
 prt:partition_stmt ltInt
 peq:partitionEqual_stmt ltInt
 pdq:pdq_stmt ltInt
def ac7(C:Oi)(S:Qp):∀(W m o u a b limit:Nat)(d:Array (Int))(w:World),b-a<W->Holds T w m o d->m<w.1.size->a<=b->b<=d.size->d.size<4611686018427387904->limit<4611686018427387904->Below ltInt a b d->
 Calls prog 164 #[.slice (some ⟨m,o,none⟩) d.size u,.int .i64 a,.int .i64 b,.int .i64 limit] w fun e ag=>e= .returned (.tuple #[])/\At T w m o (pdq ltInt d a b limit true true) ag:=by
 intro W
 induction W with
 |zero=>intro _ _ _ _ _ _ _ _ h;exact absurd h (jD _)
 |succ W ay=>
  intro m o u a b limit d w bb v r aR aS bc az aT;go_enter func164,ntmps164;go_wp2
  go_loopg [1,2,3,8,9] (b-a) (fun k l q s p x wr=>∃(c g j:Nat)(wb wp:Bool)(i:Array (Int)),l= .int .i64 c/\q= .int .i64 g/\s= .int .i64 j/\p= .bool wb/\x= .bool wp/\
   c<=g/\g<=d.size/\g-c<=k/\k<=b-a/\j<=limit/\i.size=d.size/\Below ltInt c g i/\At T w m o i wr/\pdq ltInt i c g j wb wp=pdq ltInt d a b limit true true)
  case atStart=>exact⟨a,b,limit,true,true,d,rfl,rfl,rfl,rfl,rfl,aR,aS,av _,av _,av _,rfl,aT,At.refl v,rfl⟩
  obtain⟨c,g,j,wb,wp,i,rfl,rfl,rfl,rfl,rfl,H,aU,bd,be,L,p,aV,M,x⟩:=hrel;have⟨ah,aW⟩:=M.holds v p r;have A:Aside (pdq ltInt i c g j wb wp=pdq ltInt d a b limit true true):=x;clear x;by_cases I:g-c<=12
  ·
   have bf:(g:Int)-(c:Int)<=12:=by omega
   have z:=C.ins m o u c g i wr ah H (by omega) (by omega);rw[p]at z
   go_wp2_with (go_at_call 206;refine z.st fun aA N=>?_)
   (try simp only[Exit.inBlock,Exit.then]);refine bK (ju rfl _ _ _) rfl ?_
   refine⟨rfl,?_⟩;rw[<-A.y,pdq_small I];exact M.step r (S.ins S.swo i c g H (by omega)).1.1 N
  have:¬((g:Int)-(c:Int)<=12):=by omega
  by_cases O:j=0
  ·
   subst O;have z:=X3 m o d.size u i p c g wr ah H (by omega) (by omega)
   go_wp2_with (go_at_call 207;refine z.st fun aA N=>?_)
   (try simp only[Exit.inBlock,Exit.then]);refine bK (ju rfl _ _ _) rfl ?_
   refine⟨rfl,?_⟩;rw[<-A.y,pdq_heap I rfl];exact M.step r (heapSort_holds S.swo i c g H (by omega)).1.1 N
  have:¬((j:Int)=0):=by omega
  have⟨l,B1,bg,q,bh,y,s,aB⟩:=rd_facts (limit:=j) (wb:=wb) (wp:=wp) S.swo S.par reverseRange_holds (show c<g by omega) (show g<=i.size by omega) aV
  go_upto_if 35 with fail
  go_cut [3]from 19 (fun s wc=>s= .int .i64 (rd ltInt i c g j wb wp).lim/\At T w m o (rd ltInt i c g j wb wp).d1 wc)
  case first=>
   cases wb
   .have z:=C.brk m o u c g i wr ah aW H (by omega) (by omega);rw[p]at z
    go_wp2_with (go_at_call 208;refine z.st fun aA N=>?_)
    go_meet
    refine⟨?_,M.stepG r l N⟩;show Value.int .i64 ((j:Int)-1)=Value.int .i64 ((j-1:Nat):Int);congr 1;omega
   go_wp2
   go_meet
   exact⟨rfl,M⟩
  obtain⟨rfl,aC⟩:=hcut;have⟨aX,aY⟩:=aC.holds v (l.t p) r;have aZ:Calls prog 209 #[.slice (some ⟨m,o,none⟩) d.size u,.int .i64 c,.int .i64 g] wc fun e ag=>e= .returned (.tuple #[.int .i64 (rd ltInt i c g j wb wp).c.1,.int .i64 (hintCode (rd ltInt i c g j wb wp).c.2)])/\∃n a0,ag=grow (Sort.ahead wc n) a0:=by
   have:=C.piv m o u c g (rd ltInt i c g j wb wp).d1 wc aX aY (by omega) (by omega) (by omega);rw[l,p]at this;exact this
  go_upto_if 50 with(go_at_call 209;refine aZ.st fun aD a1=>?_)
  have ai:At T w m o (rd ltInt i c g j wb wp).d1 aD:=aC.same v (l.t p) r a1;have⟨a2,bi⟩:=ai.holds v (l.t p) r
  go_cut [11,12]from 19 (fun E x wc=>E= .int .i64 (rd ltInt i c g j wb wp).pivot/\x= .int .i64 (hintCode (rd ltInt i c g j wb wp).hint)/\At T w m o (rd ltInt i c g j wb wp).d2 wc)
  case first=>
   by_cases X:(rd ltInt i c g j wb wp).c.2= .decreasing
   .have bj:hintCode (rd ltInt i c g j wb wp).c.2=2:=by rw[X];rfl
    have⟨e2,aj,ak⟩:=rd_dec X;have aE:=acv m o u (rd ltInt i c g j wb wp).d1 c g aD a2 H (by omega) (by omega);rw[l,p]at aE
    go_wp2_with (go_at_call 210;refine aE.st fun bl a3=>?_)
    go_meet
    refine⟨?_,by rw[ak];rfl,by rw[e2];exact ai.step r (by rw[<-e2,q,l]) a3⟩;rw[aj];congr 1;omega
   have:¬(hintCode (rd ltInt i c g j wb wp).c.2=2):=fun h=>X (hintCode_two h);have⟨e2,aj,ak⟩:=rd_not X;go_wp2
   go_meet
   exact⟨by rw[aj],by rw[ak],by rw[e2];exact ai⟩
  obtain⟨rfl,rfl,aa⟩:=hcut;have⟨a4,bm⟩:=aa.holds v (q.t p) r
  go_upto_region 15 with fail
  go_cut [12,68]from 19 (fun x E l=>x= .int .i64 (hintCode (rd ltInt i c g j wb wp).hint)/\E= .bool (wb&&wp&&decide ((rd ltInt i c g j wb wp).hint= .increasing))/\l=wc)
  case first=>
   cases wb<;>cases wp<;>cases al:(rd ltInt i c g j _ _).hint<;>
    (have a5:=cg hintCode al
     simp only[hintCode]at a5;go_wp2
     go_meet
     exact⟨by simp[al,hintCode],by simp[al,hintCode],rfl⟩)
  obtain⟨rfl,rfl,rfl⟩:=hcut
  go_upto_if 68 with fail
  go_cut []from 19 (fun l=>(rd ltInt i c g j wb wp).pi.2=false/\At T w m o (rd ltInt i c g j wb wp).pi.1 l)
  case first=>
   cases aF:(wb&&wp&&decide ((rd ltInt i c g j wb wp).hint= .increasing))
   .have J:=rd_pi_no aF;go_wp2
    go_meet
    exact⟨by rw[J],by rw[J];exact aa⟩
   have J:=rd_pi_yes aF;have aG:=C.par m o u c g (rd ltInt i c g j wb wp).d2 wc a4 (by omega) (by omega) (by omega);rw[q,p,<-J]at aG
   go_wp2_with (go_at_call 211;refine aG.st fun bn aH=>?_)
   all_goals first
    |(have E:(rd ltInt i c g j wb wp).pi.2=false:=by rw[J];assumption
      go_meet
      exact⟨E,aa.step r (by rw[s,q]) aH⟩)
    |(have E:(rd ltInt i c g j wb wp).pi.2=true:=by rw[J];assumption
      (try simp only[Exit.inBlock,Exit.then]);refine bK (ju rfl _ _ _) rfl ?_
      refine⟨rfl,?_⟩;rw[<-A.y,pdq_done I O E];exact aa.step r (by rw[s,q]) aH)
  obtain⟨E,am⟩:=hcut;have⟨aI,bo⟩:=am.holds v (s.t p) r;have q:∀t,t<d.size->wc.cell? ⟨m,o+t,none⟩=some (.int .u8 ((rd ltInt i c g j wb wp).pi.1[t]!)):=fun t a6=>(aI t (by omega)).1;have x:∀t,t<d.size->wc.frozen? ⟨m,o+t,none⟩=false:=fun t a6=>(aI t (by omega)).2
  go_upto_region 17 with fail
  go_cut [87]from 19 (fun F l=>F= .bool (decide (c>0)&&!ltInt (rd ltInt i c g j wb wp).pi.1[c-1]! (rd ltInt i c g j wb wp).pi.1[(rd ltInt i c g j wb wp).pivot]!)/\At T w m o (rd ltInt i c g j wb wp).pi.1 l)
  case first=>
   obtain an|an:=Cl c
   .have bp:decide ((c:Int)>0)=false:=gX (by omega)
    go_big_quiet (first|(go_at_call 212;refine fV (fH _ _ _)))
    go_wp2
    go_meet
    exact⟨by simp[an],am.ahead nq⟩
   have:(c:Int)>0:=by omega
   go_big_quiet (first|(go_at_call 212;refine fV (fH _ _ _)))
   go_wp2
   go_meet
   exact⟨by simp[an],am.ahead nq⟩
  obtain⟨rfl,ao⟩:=hcut;have⟨aJ,bq⟩:=ao.holds v (s.t p) r;clear q x;cases ab:(decide (c>0)&&!ltInt (rd ltInt i c g j wb wp).pi.1[c-1]! (rd ltInt i c g j wb wp).pi.1[(rd ltInt i c g j wb wp).pivot]!)
  ·
   obtain⟨l,P,d4,q⟩:∃l P d4,partition ltInt (rd ltInt i c g j wb wp).pi.1 c g (rd ltInt i c g j wb wp).pivot=(l,P,d4):=⟨(partition ltInt (rd ltInt i c g j wb wp).pi.1 c g (rd ltInt i c g j wb wp).pivot).1,(partition ltInt (rd ltInt i c g j wb wp).pi.1 c g (rd ltInt i c g j wb wp).pivot).2.1,(partition ltInt (rd ltInt i c g j wb wp).pi.1 c g (rd ltInt i c g j wb wp).pivot).2.2,rfl⟩
   have⟨ad,Q,x,ae,aK,a7,a8⟩:=round_part S.swo S.prt y.1 y.2 (show g<=(rd ltInt i c g j wb wp).pi.1.size by omega) aB q;have aL:=C.prt m o u c g (rd ltInt i c g j wb wp).pivot (rd ltInt i c g j wb wp).pi.1 wc aJ y.1 y.2 (by omega) (by omega);rw[s,p,q]at aL;have ap:Aside (partition ltInt (rd ltInt i c g j wb wp).pi.1 c g (rd ltInt i c g j wb wp).pivot=(l,P,d4)):=q;clear q
   go_upto_if 113 with(go_at_call 214;refine aL.st fun af aq=>?_)
   have q:=ap.y;have ar:At T w m o d4 af:=ao.step r x aq;have⟨aM,aN⟩:=ar.holds v (x.t (s.t p)) r;by_cases aP:l-c<g-l
   .have br:(l:Int)-(c:Int)<(g:Int)-(l:Int):=by omega
    have R:=ay m o u c l (rd ltInt i c g j wb wp).lim d4 af (by omega) aM aN (by omega) (by omega) (by omega) (nh (aO rd_lim_le L) az) ae;rw[x,s,p]at R;have⟨F,au⟩:=S.pdq S.swo d4 c l (rd ltInt i c g j wb wp).lim true true (by omega) (by omega) ae
    go_wp2_with (go_at_call 164;refine R.st fun a9 aw=>?_)
    go_roundg (g-(l+1))
    case measure=>omega
    refine⟨l+1,g,(rd ltInt i c g j wb wp).lim,decide (l-c>=(g-c)/8),P,pdq ltInt d4 c l (rd ltInt i c g j wb wp).lim true true,by simp,rfl,rfl,?_,rfl,by omega,by omega,av _,by omega,aO rd_lim_le L,by rw[F.1,x,s,p],(a7 _ F au).1,ar.stepG r F.1 aw,?_⟩
    .exact cg Value.bool (eighth (by omega) (by omega))
    rw[<-A.y,pdq_left I O E ab (by rw[q];exact⟨ad,Q⟩) (by rw[q];exact aP),q]
   have:¬((l:Int)-(c:Int)<(g:Int)-(l:Int)):=by omega
   have R:=ay m o u (l+1) g (rd ltInt i c g j wb wp).lim d4 af (by omega) aM aN (by omega) (by omega) (by omega) (nh (aO rd_lim_le L) az) aK;rw[x,s,p]at R;have⟨F,au⟩:=S.pdq S.swo d4 (l+1) g (rd ltInt i c g j wb wp).lim true true (by omega) (by omega) aK
   go_wp2_with (go_at_call 164;refine R.st fun a9 aw=>?_)
   go_roundg (l-c)
   case measure=>omega
   refine⟨c,l,(rd ltInt i c g j wb wp).lim,decide (g-l>=(g-c)/8),P,pdq ltInt d4 (l+1) g (rd ltInt i c g j wb wp).lim true true,rfl,rfl,rfl,?_,rfl,by omega,by omega,av _,by omega,aO rd_lim_le L,by rw[F.1,x,s,p],(a8 _ F au).1,ar.stepG r F.1 aw,?_⟩
   .exact cg Value.bool (eighth (by omega) (by omega))
   rw[<-A.y,pdq_right I O E ab (by rw[q];exact⟨ad,Q⟩) (by rw[q];exact aP),q]
  ·
   have ax:=ab;simp only[cH,lD,x8]at ax;obtain⟨l,d4,q⟩:∃l d4,partitionEqual ltInt (rd ltInt i c g j wb wp).pi.1 c g (rd ltInt i c g j wb wp).pivot=(l,d4):=⟨(partitionEqual ltInt (rd ltInt i c g j wb wp).pi.1 c g (rd ltInt i c g j wb wp).pivot).1,(partitionEqual ltInt (rd ltInt i c g j wb wp).pi.1 c g (rd ltInt i c g j wb wp).pivot).2,rfl⟩
   have⟨ad,Q,x,ae,_⟩:=round_eq S.swo S.peq ax.1 y.1 y.2 (show g<=(rd ltInt i c g j wb wp).pi.1.size by omega) aB ax.2 q;have aQ:=C.peq m o u c g (rd ltInt i c g j wb wp).pivot (rd ltInt i c g j wb wp).pi.1 wc aJ y.1 y.2 (by omega) (by omega);rw[s,p,q]at aQ;have ap:Aside (partitionEqual ltInt (rd ltInt i c g j wb wp).pi.1 c g (rd ltInt i c g j wb wp).pivot=(l,d4)):=q;clear q
   go_wp2_with (go_at_call 213;refine aQ.st fun af aq=>?_)
   go_roundg (g-l)
   case measure=>omega
   have q:=ap.y;exact⟨l,g,(rd ltInt i c g j wb wp).lim,wb,wp,d4,rfl,rfl,rfl,rfl,rfl,Q,aU,av _,by omega,aO rd_lim_le L,by rw[x,s,p],ae,ao.step r x aq,by rw[<-A.y,pdq_eq I O E ab (by rw[q];exact⟨ad,Q⟩),q]⟩
def UA(j:Pa)(a c i)(d)(w)(l:Holds T w a c d)(q:a<w)(m:d.size<4611686018427387904):
 Calls prog 93 #[.slice (some ⟨a,c,none⟩) d.size i] w fun e b=>e=(Value.tuple #[])/\∃n g,b=grow (putRow T (Sort.ahead w n) a c (Sort.sort ltInt d)) g:=by
 have o:=H l;have p:∀w,Calls prog 82 #[.int .u64 (d.size:Int)] w fun e b=>e=(Value.int .i64 (bitsLen d.size:Nat))/\b=w:=fun w=>by
  have h:=PW (d.size:Int) w (by omega) (by omega);rwa[sf,bitLen_eq _ (by omega)]at h
 have:bitsLen d.size<=62:=(bitsLen_le_iff d.size 62).2 (by omega);go_enter func93,ntmps93
 go_wp2_with (first
  |(go_at_call 82;refine(p _).m ?_;rintro e b ⟨rfl,rfl⟩)
  |(go_at_call 164;refine(j a c i 0 d.size (bitsLen d.size) d _ (by exact o.y) (by omega) (aQ _) (av _) m (by omega) (Or.inl rfl)).m ?_;rintro e b ⟨rfl,n,g,rfl⟩))
 go_end0
 exact⟨rfl,n,g,rfl⟩
def WG:Oi where
 ins:=U2
 brk:=afi
 piv:=ae0
 par:=XC
 peq:=ac0
 prt:=Zm
def plain8:Qp where
 swo:=swo_ltInt
 ins:=insertionSort_holds
 par:=partialInsertionSort_holds
 prt:=partition_holds _
 peq:=partitionEqual_holds _
 pdq:=pdq_sorts _
def UU:Pa:=fun c e g a b limit d w h i j l m n o=>
 ac7 WG plain8 (b-a+1) c e g a b limit d w (by omega) h i j l m n o
def abe(f off cap)(a:List Int)(w)(b:Holds T w f off a.toArray)(c:f<w)(j:a.length<4611686018427387904):
 Calls prog 93 #[.slice (some ⟨f,off,none⟩) a cap] w fun e g=>
  e=(Value.tuple #[])/\∃n i,g=grow (putRow T (Sort.ahead w n) f off (a.mergeSort fun x y=>decide (x<=y)).toArray) i:=by
 have h:=UA UU f off cap a.toArray w b c (by omega);rw[show Sort.sort ltInt a.toArray=(a.mergeSort fun x y=>decide (x<=y)).toArray by rw[<-sortInt a]]at h;simpa using h
end
set_option maxRecDepth 100000
namespace Bl
inductive St
 |fresh
 |made (b:Nat)
 |stored (b:Nat)
def yc(P:Program)(c:Oper)(a:Act)(z z2:Obj)(b:Nat):Prop:=
 ∀W:World,W.1[b]? =some z->∃W',(execOp a.eval c).run P W= .ok .skip W'/\W.grownBy W' (some b)/\W'.1[b]? =some z2
structure Sp where
 p:Nat
 dp:Option Tmp
 q:Nat
 oq:Oper
 z:Obj
 z2:Obj
structure xU(P:Program)(ops:Array Oper)(x:Sp):Prop where
 op:∃o,ops[x.p]? =some o/\o.dst=x.dp/\o.guard=none/\∀(a:Act)(W:World),(execOp a.eval o).run P W= .ok (.value (.pointer W)) (W.alloc x.z)
 oq:ops[x.q]? =some x.oq
 gq:x.oq.guard=none
def aha{a:Array Bool}{i}(h:i<a.size):(a.setIfInBounds i true).getD i true=true:=by simp[h]
def Gh{md}{ops}{n}{listed}(a:(decide (n=ops.size)||Region.sinkB md ops n)=true)(c:Region.chainB md ops n=true)(e:n<=ops.size)(f:HeadInv md ops n listed):
 ∀(d i:Nat),n-i=d->i<n->listed.getD i true=false->∀t,n<=t->t∉Region.ready md ops listed:=fun d i g j l t m b=>by
 obtain h|h:=Nat.lt_or_eq_of_le e
 .have a:Region.sinkB md ops n=true:=by grind
  exact tail_waits a c h f d i g j l t m b
 have⟨_,o,p,_⟩:=uc.1 b
 grind
def more(sp:Option (Nat×Nat)):Nat:=match sp with
 |none=>0
 |some _=>2
end Bl
namespace Bm
open Bl
section
variable{P:Program}{ops:Array Oper}{md:Region.Mode}
def jm(md:Region.Mode)(ops:Array Oper)(i:Nat):Nat->Nat->Bool
 |0,_=>false
 |f+1,j=>match ops[j]? with
  |some a=>a.after.any fun e=>Region.binds md e&&(e.on==i||jm md ops i f e.on)
  |none=>false
def NM{n i}{listed}(c:HeadInv md ops n listed):∀(f j:Nat),jm md ops i f j=true->listed.getD j false=true->listed.getD i false=true
 |0,_,h,_=>by simp[jm]at h
 |f+1,j,h,l=>by
  unfold jm at h;split at h
  .rename_i m o;have⟨e,p,a⟩:=C8.1 h;simp only[cH,jW,fg]at a;have g:=c.closed j m o l e p a.1;obtain b|b:=a.2
   .rw[<-b];exact g
   exact NM c f e.on b g
  cases h
def OW{n i}{listed}(g:HeadInv md ops n listed)(l:listed.getD i true=false){f j}(h:jm md ops i f j=true):j∉Region.ready md ops listed:=by
 intro m;have⟨_,r,o,p⟩:=uc.1 m;cases f with
 |zero=>simp[jm]at h
 |succ f=>
  unfold jm at h;rw[o]at h;have⟨e,q,a⟩:=C8.1 h;simp only[cH,jW,fg]at a;have b:=p e q a.1;obtain c|c:=a.2
  .rw[c,(getD_both l)]at b;cases b
  have:=NM g f e.on c b
  grind
def yr(md:Region.Mode)(ops:Array Oper):List Nat->Bool
 |[]=>true
 |[_]=>true
 |a::b::rest=>jm md ops a 9 b&&yr md ops (b::rest)
def SN{i j}(h:Region.waitsFor md ops j i=true):jm md ops i 1 j=true:=by
 have⟨c,a,e,b,f,g⟩:=Region.waitsFor_spec h;simp only[jm,a];exact C8.2 ⟨e,b,by grind⟩
def Pb{i k f}(l:jm md ops i f k=true):∀(g j:Nat),jm md ops k g j=true->∃h,jm md ops i h j=true
 |0,_,h=>by simp[jm]at h
 |g+1,j,h=>by
  unfold jm at h;split at h
  .rename_i o m;have⟨e,n,b⟩:=C8.1 h;simp only[cH,jW,fg]at b;obtain⟨a,p⟩:∃a,jm md ops i a e.on=true:=by
    obtain c|c:=b.2
    .grind
    exact Pb l g e.on c
   refine⟨a+1,?_⟩;simp only[jm,m];exact C8.2 ⟨e,n,by grind⟩
  cases h
def OY{a}:∀(b:Nat)(rest:List Nat),(∃f,jm md ops a f b=true)->yr md ops (b::rest)=true->∀c∈b::rest,∃f,jm md ops a f c=true
 |b,[],h,_,c,e=>by grind
 |b,d::rest,h,g,c,e=>by
  simp only[yr,cH]at g;obtain⟨f,i⟩:=h;obtain rfl|e:=fI.1 e
  .grind
  exact OY d rest (Pb i 9 d g.1) g.2 c e
def JQ:∀(cs:List Nat),yr md ops cs=true->cs.Pairwise fun a b=>∃f,jm md ops a f b=true
 |[],_=>List.Pairwise.nil
 |[a],_=>by simp
 |a::b::rest,h=>by
  simp only[yr,cH]at h;rw[lU];exact⟨fun c e=>OY b rest ⟨9,h.1⟩ h.2 c e,JQ (b::rest) h.2⟩
def Ib{R}:∀{cs:List Nat},cs.Pairwise (·<·)->cs.Pairwise R->∀a b,a∈cs->b∈cs->a<b->R a b
 |[],_,_,a,_,e,_,_=>by grind
 |c::cs,f,g,a,b,e,h,i=>by
  rw[lU]at f g;obtain e1|j:=fI.1 e<;>obtain e2|l:=fI.1 h
  .omega
  .grind
  .grind
  exact Ib f.2 g.2 a b j l i
end
end Bm
namespace Bo
open Bl
open Bm (jm yr JQ Ib OW SN)
section
variable{P:Program}{ops:Array Oper}{md:Region.Mode}{I:World->Prop}{n0:Option Nat}
def gY(a:Oper):Bool:=match a.op with
 | .call c=>match c.callee with
   | .builtin b=>match b with
     | .append=>true
     |_=>false
   |_=>true
 | .buildSlice _ _ _=>true
 | .lookup _ _ _ _=>true
 |_=>false
abbrev Sx:=St×(World->Prop)
def Kept(n0:Option Nat)(W W':World):Prop:=∀n b,n0=some n->n<=b->b<W.1.size->W'.1[b]? =W.1[b]?
def Kept.gz{W W'}(h:Below W.1.size W W'):Kept n0 W W':=fun n b _ _ f=>h.block b f
def Kept.none{W W'}:Kept none W W':=fun n b h=>by cases h
structure Inv(I:World->Prop)(n0:Option Nat):Prop where
 alloc:∀W z,I W->I (W.alloc z)
 put:∀W W' n b,n0=some n->I W->W.grownBy W' (some b)->n<=b->I W'
 size:∀W n,n0=some n->I W->n<=W.1.size
def l5(P:Program)(ops:Array Oper)(I:World->Prop)(b:Oper)(v:Value)(a:Act):Prop:=
 (Region.wanted b (yielded ops a.tmps)=true/\∀W,I W->(execOp a.eval b).run P W= .ok (.value v) W)\/(Region.wanted b (yielded ops a.tmps)=false/\v=undef)
def opens(P:Program)(I:World->Prop)(n0:Option Nat)(W:World)(G:Value->(World->Prop)->Prop):Result Next->Prop
 | .ok (.value v) W'=>∃a,G v a/\I W'/\a W'/\Kept n0 W W'
 | .ok (.enter f args) W1=>W1=W/\Calls P f args W fun e b=>∃v a,e= .returned v/\G v a/\I b/\a b/\Kept n0 W b
 |_=>False
def pE(P:Program)(ops:Array Oper)(I:World->Prop)(n0:Option Nat)(R:World->Prop)(c:Oper)(G:Value->(World->Prop)->Prop)(a:Act):Prop:=
 (∀v b,G v b->∀W z,b W->b (W.alloc z))/\(∃v b,G v b)/\Region.wanted c (yielded ops a.tmps)=true/\∀W,I W->R W->opens P I n0 W G ((execOp a.eval c).run P W)
def l5.of_same{o}{v}{a a'}(f:l5 P ops I o v a)(g:execOp a'.eval o=execOp a.eval o)(h:Region.wanted o (yielded ops a'.tmps)=Region.wanted o (yielded ops a.tmps)):l5 P ops I o v a':=by
 unfold l5 at*;rw[g,h];exact f
def pE.of_same{R}{o}{G}{a a'}(f:pE P ops I n0 R o G a)(g:execOp a'.eval o=execOp a.eval o)(h:Region.wanted o (yielded ops a'.tmps)=Region.wanted o (yielded ops a.tmps)):pE P ops I n0 R o G a':=by
 unfold pE at*;rw[g,h];exact f
def l5.unique{w0}(y:I w0){o}{u v}{a}(f:l5 P ops I o u a)(g:l5 P ops I o v a):u=v:=by
 obtain⟨h,i⟩|⟨h,i⟩:=f<;>obtain⟨r,w⟩|⟨r,w⟩:=g
 .grind
 .grind
 .grind
 grind
def S(I:World->Prop)(n0:Option Nat)(z z2:Obj):Sx->World->Prop
 |(.fresh,R),W=>I W/\R W/\∀W z,R W->R (W.alloc z)
 |(.made b,R),W=>(I W/\R W/\∀W z,R W->R (W.alloc z))/\(∃n,n0=some n/\n<=b)/\W.1[b]? =some z
 |(.stored b,_),W=>I W/\(∃n,n0=some n/\n<=b)/\W.1[b]? =some z2
def S.inv{z z2}{s}{W}(h:S I n0 z z2 s W):I W:=by
 obtain⟨s,R⟩:=s;cases s with
 |fresh=>exact h.1
 |made b=>exact h.1.1
 |stored b=>exact h.1
def aaK{z z2}{i}{o}{v}{a}{s}{W}{K'}{Q'}(c:ops[i]? =some o)(e:l5 P ops I o v a)(f:S I n0 z z2 s W)
 (h:K' (a.put o.dst v) W):wpOp P ops Q' i K' a W:=by
 unfold wpOp;simp only[c];obtain⟨b,g⟩|⟨b,rfl⟩:=e
 .simp only[b,yk];refine .inl ?_;unfold Oper.wp;rw[g W f.inv];exact h
 grind
def Open(s:St):Prop:=∀b,s≠ .stored b
def S.qi{z z2}{s}{R R'}{W W'}(o:Open s)(h:S I n0 z z2 (s,R) W)(f:I W')(g:R' W')(i:∀W z,R' W->R' (W.alloc z))(r:Kept n0 W W'):S I n0 z z2 (s,R') W':=by
 cases s with
 |fresh=>exact⟨f,g,i⟩
 |made b=>
  have⟨n,u,w⟩:=h.2.1;exact⟨⟨f,g,i⟩,h.2.1,(r n b u w (gS.1 h.2.2).1).t h.2.2⟩
 |stored b=>exact absurd rfl (o b)
def S.X2{z z2}{s}{R}{W}(f:Open s)(h:S I n0 z z2 (s,R) W):R W:=by
 cases s with
 |fresh=>exact h.2.1
 |made b=>exact h.1.2.1
 |stored b=>exact absurd rfl (f b)
def ab4{z z2}{i}{o}{G}{a}{s}{R}{W}{K'}{Q'}(w:ops[i]? =some o)(l:Open s)(y:pE P ops I n0 R o G a)(c:S I n0 z z2 (s,R) W)
 (h:∀v g W',G v g->S I n0 z z2 (s,g) W'->K' (a.put o.dst v) W'):wpOp P ops Q' i K' a W:=by
 obtain⟨t,_,A,C⟩:=y;unfold wpOp;simp only[w];simp only[A,yk];refine .inl ?_;unfold Oper.wp;have j:=C W c.inv (c.X2 l);generalize (execOp a.eval o).run P W=r at*
 cases r with
 |ok n E=>
  cases n<;>simp only[opens]at j<;>simp only[Oper.upon]
  case value u=>
   obtain⟨g,b,m,p,q⟩:=j;exact h _ _ _ b (c.qi l m p (t _ _ b) q)
  case enter f args=>
   obtain⟨rfl,F⟩:=j;exact F.m fun e J ⟨v,g,H,b,m,p,q⟩=>by subst H;exact h _ _ _ b (c.qi l m p (t _ _ b) q)
 |halt x E=>simp only[opens]at j
def tH(P:Program)(ops:Array Oper)(I:World->Prop)(n0:Option Nat)(sp:Option Sp)(i:Nat)(K:Act->Sx->Prop)(a:Act)(s:Sx):Prop:=
 (∃x,sp=some x/\x.p=i/\∀b,K (a.put x.dp (.pointer (b:Nat))) (.made b,s.2))\/
 (∃x b,sp=some x/\x.p≠i/\x.q=i/\s.1= .made b/\yc P x.oq a x.z x.z2 b/\K (a.put x.oq.dst undef) (.stored b,s.2))\/
 ((∀x,sp=some x->x.p≠i/\x.q≠i)/\Open s.1/\∃c G,ops[i]? =some c/\gY c=true/\pE P ops I n0 s.2 c G a/\∀v e,G v e->K (a.put c.dst v) (s.1,e))\/
 ((∀x,sp=some x->x.p≠i/\x.q≠i)/\∃c v,ops[i]? =some c/\gY c=false/\l5 P ops I c v a/\K (a.put c.dst v) s)
variable{sp:Option Sp}
def NO{i}{a}{s}{K K'}(h:∀a s,K a s->K' a s)(m:tH P ops I n0 sp i K a s):tH P ops I n0 sp i K' a s:=by
 obtain⟨x,c,e,f⟩|⟨x,b,c,e,f,g,j,n⟩|⟨c,o,l,G,e,f,g,j⟩|⟨c,l,v,e,f,g,j⟩:=m
 .exact .inl ⟨x,c,e,fun b=>h _ _ (f b)⟩
 .exact .inr (.inl ⟨x,b,c,e,f,g,j,h _ _ n⟩)
 .exact .inr (.inr (.inl ⟨c,o,l,G,e,f,g,fun v m p=>h _ _ (j v m p)⟩))
 exact .inr (.inr (.inr ⟨c,l,v,e,f,g,h _ _ j⟩))
def aad{j}{oi oj}{v}(e:ops[j]? =some oj)(t:∀x,sp=some x->xU P ops x)(i:oi.apart ops oj=true)
 (C:∀cs b,oi.op≠ .select cs b)(o:∀cs b,oj.op≠ .select cs b){K}{a}{s}
 (f:l5 P ops I oi v a)(h:tH P ops I n0 sp j K (a.put oi.dst v) s):
 tH P ops I n0 sp j (fun c g=>l5 P ops I oi v c/\K (c.put oi.dst v) g) a s:=by
 have⟨g,l,w⟩:=Oper.apart_spec i;have m:∀(a:Act),l5 P ops I oi v a->∀u,l5 P ops I oi v (a.put oj.dst u):=fun a f u=>
  f.of_same (BE oi C a oj.dst u w) (CC oi a oj.dst u w)
 obtain⟨x,e1,e2,n⟩|⟨x,b,e1,e2,n,E,y,z⟩|⟨e1,F,H,G,i,p,q,r⟩|⟨e1,H,u,i,p,q,r⟩:=h
 .have⟨N,c,J,_,_⟩:=(t x e1).op;rw[e2,e]at c;cases c;refine .inl ⟨x,e1,e2,fun b=>?_⟩;have A:=n b;rw[<-J]at A⊢;exact⟨m a f _,by rw[<-Ap a v _ l];exact A⟩
 .have c:=(t x e1).oq;rw[n,e]at c;injection c with c;refine .inr (.inl ⟨x,b,e1,e2,n,E,?_,?_⟩)
  .unfold yc at*
   rw[<-c]at y⊢;rwa[BE oj o a oi.dst v g]at y
  rw[<-c]at z⊢;exact⟨m a f _,by rw[<-Ap a v _ l];exact z⟩
 .rw[e]at i;cases i;exact .inr (.inr (.inl ⟨e1,F,oj,G,e,p,q.of_same (BE oj o a oi.dst v g).s (CC oj a oi.dst v g).s,fun u L M=>⟨m a f u,by rw[<-Ap a v u l];exact r u L M⟩⟩))
 rw[e]at i;cases i;exact .inr (.inr (.inr ⟨e1,oj,u,e,p,q.of_same (BE oj o a oi.dst v g).s (CC oj a oi.dst v g).s,m a f u,by rw[<-Ap a v u l];exact r⟩))
def Zo{w0}(A:I w0){j}{oi oj}{G}(i:ops[j]? =some oj)(C:∀x,sp=some x->xU P ops x)(E:gY oj=false)(z:∀x,sp=some x->x.q≠j)(p:oi.apart ops oj=true)
 (F:∀cs b,oi.op≠ .select cs b)(H:∀cs b,oj.op≠ .select cs b){K}{a}{s}
 (J:Open s.1)(g:pE P ops I n0 s.2 oi G a)(h:∀v c,G v c->tH P ops I n0 sp j K (a.put oi.dst v) (s.1,c)):
 tH P ops I n0 sp j (fun l f=>Open f.1/\pE P ops I n0 f.2 oi G l/\∀v c,G v c->K (l.put oi.dst v) (f.1,c)) a s:=by
 have⟨m,n,o⟩:=Oper.apart_spec p;have L:∀(a:Act),pE P ops I n0 s.2 oi G a->∀u,pE P ops I n0 s.2 oi G (a.put oj.dst u):=fun a g u=>
  g.of_same (BE oi F a oj.dst u o) (CC oi a oj.dst u o)
 have⟨M,N,O⟩:=g.2.1;by_cases p:∃x,sp=some x/\x.p=j
 .obtain⟨x,e1,e2⟩:=p;have⟨ad,q,Q,_,_⟩:=(C x e1).op;rw[e2,i]at q;cases q;refine .inl ⟨x,e1,e2,fun b=>⟨fun r e=>(by cases e),by grind,fun v c f=>?_⟩⟩;obtain⟨y,d1,d2,d3⟩|⟨y,r,d1,d2,d3,_⟩|⟨d1,_⟩|⟨d1,_⟩:=h v c f
  .rw[e1]at d1;cases d1;have t:=d3 b;rw[<-Q]at t⊢;rw[<-Ap a v _ n];exact t
  .grind
  .grind
  grind
 have R:∀x,sp=some x->x.p≠j/\x.q≠j:=fun x w=>⟨fun e=>p ⟨x,w,e⟩,z x w⟩
 have z:∀v c,G v c->∃u,l5 P ops I oj u a/\K ((a.put oi.dst v).put oj.dst u) (s.1,c):=by
  intro v c f;obtain⟨y,d1,d2,_⟩|⟨y,r,d1,d2,d3,_⟩|⟨_,_,T,ae,l,W,_⟩|⟨_,T,u,l,W,X,aa⟩:=h v c f
  .grind
  .grind
  .grind
  rw[i]at l;cases l;exact⟨u,X.of_same (BE oj H a oi.dst v m).s (CC oj a oi.dst v m).s,aa⟩
 have⟨u,r,_⟩:=z M N O;refine .inr (.inr (.inr ⟨R,oj,u,i,E,r,J,L a g u,fun v c f=>?_⟩));have⟨E,H,ab⟩:=z v c f;rw[r.unique A H,<-Ap a v E n];exact ab
def xh(P:Program)(md:Region.Mode)(ops:Array Oper)(I:World->Prop)(n0:Option Nat)(sp:Option Sp)(n:Nat)(L:Array Bool->Act->Sx->Prop):Nat->Array Bool->Act->Sx->Prop
 |0,b,a,s=>L b a s
 |f+1,b,a,s=>
  Region.ready md ops b≠[]/\∀i∈Region.ready md ops b,i<n/\tH P ops I n0 sp i (xh P md ops I n0 sp n L f (b.setIfInBounds i true)) a s
def Db(l:Inv I n0)(o:∀x,sp=some x->∃n,n0=some n){z z2}{n g}{L}{Q'}(p:∀j a s W,L j a s->S I n0 z z2 s W->wpAny P md ops Q' g j a W)
 (m:∀x,sp=some x->xU P ops x/\x.z=z/\x.z2=z2):
 ∀(f:Nat)(j:Array Bool)(a:Act)(s:Sx)(W:World),S I n0 z z2 s W->((∀x,sp=some x->j.getD x.p true=false)->s.1= .fresh)->xh P md ops I n0 sp n L f j a s->wpAny P md ops Q' (f+g) j a W
 |0,j,a,s,W,c,_,h=>by rw[cK];exact p _ _ _ _ h c
 |f+1,j,a,s,W,c,w,h=>by
  rw[show f+1+g=(f+g)+1 by omega];refine⟨fun j=>absurd j h.1,fun i N=>?_⟩;obtain⟨x,e1,e2,A⟩|⟨x,b,e1,e2,A,Q,T,X⟩|⟨e1,aa,ab,G,C,_,t,E⟩|⟨e1,ab,v,C,_,t,E⟩:=(h.2 i N).2
  .have⟨j,F,ad⟩:=m x e1;have⟨al,q,ae,H,af⟩:=j.op;rw[e2]at q;obtain⟨s,R⟩:=s;have⟨J,u⟩:=o x e1;have ag:=w (fun y r=>by rw[e1]at r;cases r;rw[e2];exact((uc.1 N).1));subst ag;unfold wpOp;simp only[q];rw[aq (by simp[Region.wanted,H])];refine .inl ?_;unfold Oper.wp;rw[af,Oper.upon_value,ae,F];have r:=c;refine Db l o p m f _ _ (.made W.1.size,R) _ ⟨⟨l.alloc _ _ r.1,r.2.2 _ _ r.2.1,r.2.2⟩,⟨J,u,l.size _ _ u r.1⟩,jZ W z⟩ (fun M=>?_) (A W.1.size);simp_all
  .have⟨j,F,ad⟩:=m x e1;have q:=j.oq;rw[A]at q;obtain⟨s,R⟩:=s;obtain rfl:s= .made b:=Q;unfold wpOp;simp only[q];rw[aq (by simp[Region.wanted,j.gq])];refine .inl ?_;have⟨W',ah,H,t⟩:=T W (by rw[F];exact c.2.2);unfold Oper.wp;rw[ah,Oper.upon_skip];refine Db l o p m f _ _ (.stored b,R) _ ⟨by have⟨J,u,O⟩:=c.2.1;exact l.put _ _ J b u c.1.1 H O,c.2.1,by grind⟩ (fun M=>?_) X;have ai:i≠x.p:=fun e=>e2 e.s;simp_all
  .obtain⟨s,R⟩:=s;refine ab4 C aa t c fun v O W' aj ak=>Db l o p m f _ _ (s,O) _ ak (fun M=>w fun x j=>?_) (E v O aj);have ai:i≠x.p:=fun e2=>(e1 x j).1 e2.s;simp_all
  refine aaK C t c (Db l o p m f _ _ s _ c (fun M=>w fun x j=>?_) E);have:i≠x.p:=fun e2=>(e1 x j).1 e2.s;simp_all
def ae1{n i}{oi}{v}{L}(A:ops[i]? =some oi)(O:gY oi=false)(Q:∀x,sp=some x->x.p≠i/\x.q≠i)(R:∀x,sp=some x->xU P ops x)
 (C:∀(j:Nat)(c:Oper) cs b,ops[j]? =some c->c.op≠ .select cs b)
 (E:(decide (n=ops.size)||Region.sinkB md ops n)=true)(F:Region.chainB md ops n=true)(H:n<=ops.size)(J:i<n)
 (T:∀c a s,L c a s->∀j∈Region.ready md ops c,n<=j):
 ∀(f:Nat)(c:Array Bool)(a:Act)(s:Sx),HeadInv md ops n c->
  (∀j g,ops[j]? =some g->j≠i->c.getD j true=false->(∀e∈g.after,Region.binds md e=true->e.on≠i)->oi.apart ops g=true)->
  i∈Region.ready md ops c->l5 P ops I oi v a->
  xh P md ops I n0 sp n L f (c.setIfInBounds i true) (a.put oi.dst v) s->xh P md ops I n0 sp n L (f+1) c a s:=by
 have:∀{K:Act->Sx->Prop}{a:Act}{s:Sx},l5 P ops I oi v a->K (a.put oi.dst v) s->tH P ops I n0 sp i K a s:=fun q W=> .inr (.inr (.inr ⟨Q,oi,v,A,O,q,W⟩));intro f
 induction f with
 |zero=>
  intro c a s r _ t q w;have o:=(uc.1 t).1;refine⟨fun h=>(by grind),fun j l=>?_⟩;have y:j<n:=by
   obtain h|h:=qN j n
   .exact h
   exact absurd l (Gh E F H r _ i rfl J o j h)
  by_cases m:j=i
  .grind
  have:=T _ _ _ w j (Ay l m);omega
 |succ f X=>
  intro c a s r M t q w;have o:=(uc.1 t).1;refine⟨fun h=>(by grind),fun j l=>?_⟩;have y:j<n:=by
   obtain h|h:=qN j n
   .exact h
   exact absurd l (Gh E F H r _ i rfl J o j h)
  refine⟨y,?_⟩;by_cases m:j=i
  .grind
  have u:=(w.2 j (Ay l m)).2;have⟨N,g,z,aa⟩:=uc.1 l;have ab:∀e∈g.after,Region.binds md e=true->e.on≠i:=fun e ad ae af=>by
   have u:=aa e ad ae;rw[af,getD_both o]at u;cases u
  have ag:∀k p,ops[k]? =some p->k≠i->(c.setIfInBounds j true).getD k true=false->
   (∀e∈p.after,Region.binds md e=true->e.on≠i)->oi.apart ops p=true:=fun k p ah ai o aj=>by
   refine M k p ah ai ?_ aj;by_cases ak:j=k
   .subst ak;exact N
   simp_all
  refine NO (fun al am an=>X (c.setIfInBounds j true) al am (r.set l y) ag (Ay t (Ne.s m)) an.1 ?_) (aad z R (M j g z m N ab) (fun cs b=>C i oi cs b A) (fun cs b=>C j g cs b z) q u);rw[Qv _ _ m]
  grind
def Cq(ops:Array Oper):List Nat:=(List.range ops.size).filter fun j=>(ops[j]?.map gY).getD false
def E9(md:Region.Mode)(ops:Array Oper)(q:Option Nat):Bool:=
 yr md ops (Cq ops)&&match q with
  |none=>true
  |some q=>(Cq ops).all fun c=>Region.waitsFor md ops q c
def abo{q}(h:E9 md ops q=true){i j}(b:i∈Cq ops)(c:i<j)(a:(ops[j]?.map gY).getD false=true\/q=some j):∃f,jm md ops i f j=true:=by
 unfold E9 at h;rw[cH]at h;obtain a|a:=a
 .have e:j<ops.size:=by
   grind
  refine Ib ?_ (JQ _ h.1) i j b (by unfold Cq;rw[nE];exact⟨fS.2 e,a⟩) c;exact Sy _ (GW)
 subst a;exact⟨1,SN (mw.1 h.2 i b)⟩
def agy{w0}(W:I w0){n i}{oi}{G}{L}(F:ops[i]? =some oi)(X:gY oi=true)(aa:∀x,sp=some x->x.p≠i/\x.q≠i)(ab:∀x,sp=some x->xU P ops x)
 (H:∀(j:Nat)(c:Oper) cs b,ops[j]? =some c->c.op≠ .select cs b)
 (u:(decide (n=ops.size)||Region.sinkB md ops n)=true)(J:Region.chainB md ops n=true)(M:n<=ops.size)(N:i<n)
 (ad:∀c a s,L c a s->∀j∈Region.ready md ops c,n<=j):
 ∀(f:Nat)(c:Array Bool)(a:Act)(s:Sx),HeadInv md ops n c->
  (∀j m,ops[j]? =some m->j≠i->c.getD j true=false->(∀e∈m.after,Region.binds md e=true->e.on≠i)->oi.apart ops m=true)->
  (∀j,j≠i->c.getD j true=false->(∃f,jm md ops i f j=true)\/((ops[j]?.map gY).getD false=false/\∀x,sp=some x->x.q≠j))->
  i∈Region.ready md ops c->Open s.1->pE P ops I n0 s.2 oi G a->
  (∀v p,G v p->xh P md ops I n0 sp n L f (c.setIfInBounds i true) (a.put oi.dst v) (s.1,p))->xh P md ops I n0 sp n L (f+1) c a s:=by
 have own:∀{K:Act->Sx->Prop}{a:Act}{s:Sx},Open s.1->pE P ops I n0 s.2 oi G a->(∀v p,G v p->K (a.put oi.dst v) (s.1,p))->tH P ops I n0 sp i K a s:=fun u q ae=> .inr (.inr (.inl ⟨aa,u,oi,G,F,X,q,ae⟩));intro f
 induction f with
 |zero=>
  intro c a s r _ _ w y q t;have g:=(uc.1 w).1;refine⟨fun h=>(by grind),fun j o=>?_⟩;have z:j<n:=by
   obtain h|h:=qN j n
   .exact h
   exact absurd o (Gh u J M r _ i rfl N g j h)
  refine⟨z,?_⟩;by_cases l:j=i
  .subst l;exact own y q t
  have⟨af,ag,ah⟩:=q.2.1;have:=ad _ _ _ (t af ag ah) j (Ay o l);omega
 |succ f ai=>
  intro c a s r O Q w y q t;have g:=(uc.1 w).1;refine⟨fun h=>(by grind),fun j o=>?_⟩;have z:j<n:=by
   obtain h|h:=qN j n
   .exact h
   exact absurd o (Gh u J M r _ i rfl N g j h)
  refine⟨z,?_⟩;by_cases l:j=i
  .subst l;exact own y q t
  have A:=fun v p aj=>((t v p aj).2 j (Ay o l)).2;have⟨p,m,C,ak⟩:=uc.1 o;have al:∀e∈m.after,Region.binds md e=true->e.on≠i:=fun e am an ao=>by
   have A:=ak e am an;rw[ao,getD_both g]at A;cases A
  obtain⟨ap,aq⟩:gY m=false/\∀x,sp=some x->x.q≠j:=by
   obtain⟨az,ar⟩|h:=Q j l p
   .exact absurd o (OW r g ar)
   grind
  have bZ:∀k,(c.setIfInBounds j true).getD k true=false->c.getD k true=false:=fun k g=>by
   by_cases R:j=k
   .subst R;exact p
   rw[getD_set_ne true R]at g;exact g
  refine NO (fun au av T=>ai (c.setIfInBounds j true) au av (r.set o z) (fun k aw E ax g ay=>O k aw E ax (bZ k g) ay) (fun k E g=>Q k E (bZ k g)) (Ay w (Ne.s l)) T.1 T.2.1 ?_) (Zo W C ab ap aq (O j m C l p al) (fun cs b=>H i oi cs b F) (fun cs b=>H j m cs b C) y q A);rw[Qv _ _ l]
  grind
def walk(P:Program)(ops:Array Oper)(I:World->Prop)(n0:Option Nat)(Q:Act->(World->Prop)->Prop):List Oper->(World->Prop)->Act->Prop
 |[],R,a=>Q a R
 |b::rest,R,a=>if gY b=true then∃G,pE P ops I n0 R b G a/\∀v c,G v c->walk P ops I n0 Q rest c (a.put b.dst v)else∃v,l5 P ops I b v a/\walk P ops I n0 Q rest R (a.put b.dst v)
def Dp(md:Region.Mode)(ops:Array Oper)(n g:Nat)(sp:Option (Nat×Nat)):List Nat->Array Bool->Bool
 |[],a=>match sp with
  |none=>Region.seqB md ops g n a
  |some (i,q)=>decide (Region.ready md ops a=[i])&&decide (i<n)&&decide (Region.ready md ops (a.setIfInBounds i true)=[q])&&decide (q<n)&&decide (i≠q)&&Region.seqB md ops g n ((a.setIfInBounds i true).setIfInBounds q true)
 |k::ks,a=>(Region.ready md ops a).contains k&&Region.free md ops a k&&decide (k<n)&&decide (∀x∈sp,x.1≠k/\x.2≠k)&&(!(ops[k]?.map gY).getD false||(List.range k).all fun j=>a.getD j false)&&Dp md ops n g sp ks (a.setIfInBounds k true)
def z6(md:Region.Mode)(ops:Array Oper)(n:Nat)(sp:Option (Nat×Nat))(ks:List Nat):Bool:=
 Region.noSelect ops&&decide (n<=ops.size)&&(decide (n=ops.size)||Region.sinkB md ops n)&&Region.chainB md ops n&&decide (ks.length+more sp=n)&&E9 md ops (sp.map (·.2))&&Dp md ops n (ops.size-n) sp ks (Array.replicate ops.size false)
def MQ{w0}(A:I w0){n g}{L:Act->Sx->Prop}(o:Region.noSelect ops=true)(p:(decide (n=ops.size)||Region.sinkB md ops n)=true)(q:Region.chainB md ops n=true)(r:n<=ops.size)(s:∀x,sp=some x->xU P ops x)(C:E9 md ops (sp.map fun x=>x.q)=true):
 ∀(c:List Oper)(k:Nat)(f:Array Bool)(R:World->Prop)(a:Act),(∀j,j<c.length->c[j]? =ops[k+j]?)->HeadInv md ops n f->Dp md ops n g (sp.map fun x=>(x.p,x.q)) (List.range' k c.length) f=true->
 walk P ops I n0 (fun i R=>match sp with
  |none=>L i (.fresh,R)
  |some x=>∀b,yc P x.oq (i.put x.dp (.pointer (b:Nat))) x.z x.z2 b/\L ((i.put x.dp (.pointer b)).put x.oq.dst undef) (.stored b,R)) c R a->
 xh P md ops I n0 sp n (fun E i F=>Region.seqB md ops g n E=true/\L i F) (c.length+more (sp.map fun x=>(x.p,x.q))) f a (.fresh,R)
 |[],k,f,R,a,_,m,l,h=>by
  cases sp with
  |none=>exact⟨l,h⟩
  |some x=>
   simp only[Dp,iP,List.range'_zero,FZ,cH,lD]at l;obtain⟨⟨⟨⟨⟨ai,ad⟩,aj⟩,ae⟩,af⟩,ag⟩:=l;refine⟨by grind,fun j t=>?_⟩;have H:j=x.p:=by grind
   subst H;refine⟨ad,.inl ⟨x,rfl,rfl,fun b=>⟨by grind,fun j t=>?_⟩⟩⟩;have H:j=x.q:=by grind
   subst H;exact⟨ae,.inr (.inl ⟨x,b,rfl,af,rfl,rfl,(h b).1,ag,(h b).2⟩)⟩
 |J::c,k,f,R,a,t,m,l,h=>by
  rw[gL,List.range'_succ]at l;simp only[Dp,cH,lD]at l;obtain⟨⟨⟨⟨⟨ak,T⟩,u⟩,ah⟩,al⟩,W⟩:=l;have w:ops[k]? =some J:=by have:=t 0 (by simp);simpa using this.s
  have y:k∈Region.ready md ops f:=by grind
  have X:∀x,sp=some x->x.p≠k/\x.q≠k:=fun x aa=>ah (x.p,x.q) (by grind);have ab:∀j,j<c.length->c[j]? =ops[k+1+j]?:=fun j am=>by have:=t (j+1) (by grind);simpa[mq,MB 1 j]using this
  rw[show(J::c).length+more (sp.map fun x=>(x.p,x.q))=(c.length+more (sp.map fun x=>(x.p,x.q)))+1 by grind];unfold walk at h;cases z:gY J
  .rw[z,O (by simp)]at h;obtain⟨v,M,N⟩:=h;exact ae1 w z X s (Region.noSelect_spec o) p q r u (fun E i F Q=>seqB_ready Q.1) _ f a (.fresh,R) m (Region.free_spec w T) y M
    (MQ A o p q r s C c (k+1) _ R _ ab (m.set y u) W N)
  rw[z,aq rfl]at h;obtain⟨G,M,N⟩:=h;refine agy A w z X s (Region.noSelect_spec o) p q r u (fun E i F Q=>seqB_ready Q.1) _ f a (.fresh,R) m (Region.free_spec w T) (fun j F Q=>?_) y (fun b e=>by cases e) M
   (fun v i E=>MQ A o p q r s C c (k+1) _ i _ ab (m.set y u) W (N v i E))
  by_cases j<k
  .grind
  by_cases aa:(ops[j]?.map gY).getD false=true\/(sp.map fun x=>x.q)=some j
  .refine .inl (abo C ?_ (by omega) aa);unfold Cq
   grind
  grind
def Jm{Q1 Q2}(c:∀a R,Q1 a R->Q2 a R)(b):∀R a,walk P ops I n0 Q1 b R a->walk P ops I n0 Q2 b R a:=by
 induction b with
 |nil=>exact fun R a h=>c a R h
 |cons e b f=>
  intro R a h;unfold walk at h⊢
  grind
def JF{sp}{z z2}{Q}{a}{w:World}{l:List Oper}(r:Inv I n0)(u:∀x,sp=some x->∃n,n0=some n)(o:I {w with drawn:=w.drawn+1})(m n)(p:∀x,sp=some x->xU P l.toArray x/\x.z=z/\x.z2=z2)(i:(decide (m<=l.length)&&z6 .any l.toArray n (sp.map fun x=>(x.p,x.q)) (List.range' 0 m))=true)
 (h:walk P l.toArray I n0 (fun f R=>match sp with
  |none=>∀c,I c->R c->wpList P l.toArray Q (l.drop n) f c
  |some x=>∀b,yc P x.oq (f.put x.dp (.pointer (b:Nat))) x.z x.z2 b/\∀c,S I n0 z z2 (.stored b,R) c->wpList P l.toArray Q (l.drop n) ((f.put x.dp (.pointer b)).put x.oq.dst undef) c) (l.take m) (fun _=>True) a):wpAny P .any l.toArray Q l.toArray.size (Array.replicate l.toArray.size false) a {w with drawn:=w.drawn+1}:=by
 simp only[cH,lD,z6]at i;obtain⟨M,⟨⟨⟨⟨⟨v,y⟩,A⟩,C⟩,N⟩,E⟩,O⟩:=i;have T:(l.drop n).length=l.toArray.size-n:=by simp
 have F:(l.take m).length=m:=by grind
 have H:HeadInv .any l.toArray n (Array.replicate l.toArray.size false):=
  ⟨by simp,fun j q _ i=>(by rw[getD_replicate_false]at i;cases i),fun t _ J=>getD_in (by grind) (getD_replicate_false _ _)⟩
 have:=Db r u (z:=z) (z2:=z2) (Q':=Q) (g:=l.toArray.size-n) (fun q f s W J i=>by
  have:=wpAny_of_seq (md:= .any) (Q':=Q) (l.drop n) n q f W (fun j=>by grind) (by grind) (J.2 W i)
  grind) p _ _ _ (.fresh,fun _=>True) {w with drawn:=w.drawn+1} ⟨o,trivial,fun _ _ _=>trivial⟩ (fun _=>rfl) (MQ (P:=P) (I:=I) (n0:=n0) o (sp:=sp) (md:= .any) (g:=l.toArray.size-n) (L:=fun f s=>∀c,S I n0 z z2 s c->wpList P l.toArray Q (l.drop n) f c) v A C y (fun x e=>(p x e).1) (by cases sp<;>exact E) (l.take m) 0 _ _ a (fun j q=>by grind) H (by grind) (Jm (fun f R q=>by
   cases sp with
   |none=>exact fun c i=>q c i.1 i.2.1
   |some x=>exact q) _ _ a h))
 rw[F,show m+more (Option.map (fun x:Sp=>(x.p,x.q)) sp)=n by grind,show n+(l.toArray.size-n)=l.toArray.size by omega]at this;exact this
def AO{Q}{a}{w:World}{l:List Oper}(I)(c:Inv I none)(f:I {w with drawn:=w.drawn+1})(n)(g:(decide (n<=l.length)&&z6 .any l.toArray n none (List.range' 0 n))=true)
 (h:walk P l.toArray I none (fun i R=>∀b,I b->R b->wpList P l.toArray Q (l.drop n) i b) (l.take n) (fun _=>True) a):wpAny P .any l.toArray Q l.toArray.size (Array.replicate l.toArray.size false) a {w with drawn:=w.drawn+1}:=
 JF (sp:=none) (z:= .deferred none) (z2:= .deferred none) c (fun x e=>by cases e) f n n (fun x e=>by cases e) g h
def j2{id}{Q}{a}{w}{l:List Oper}(I)(c:Inv I none)(e:I {w with drawn:=w.drawn+1})(n)(f:P.follows .mixedOrders=true)(g:(decide (n<=l.length)&&z6 .any l.toArray n none (List.range' 0 n))=true)
 (h:walk P l.toArray I none (fun i R=>∀b,I b->R b->wpList P l.toArray Q (l.drop n) i b) (l.take n) (fun _=>True) a):(Code.region id l.toArray true).wp P Q a w:=
 Ju f (AO I c e n g h)
def oQ{Q}{R}{a}(h:Q a R):walk P ops I n0 Q [] R a:=h
def Fc{Q}{R}{a}{rest}{o}{v}(b:gY o=false)(c:Region.wanted o (yielded ops a.tmps)=true)
 (e:∀W,I W->(execOp a.eval o).run P W= .ok (.value v) W)(h:walk P ops I n0 Q rest R (a.put o.dst v)):walk P ops I n0 Q (o::rest) R a:=by
 unfold walk;rw[b,O (by simp)];exact⟨v,.inl ⟨c,e⟩,h⟩
def i{Q}{R}{a}{rest}{o}{v}(b:(!gY o&&Region.wanted o (yielded ops a.tmps))=true)
 (c:∀W,I W->(execOp a.eval o).run P W= .ok (.value v) W)(h:walk P ops I n0 Q rest R (a.put o.dst v)):walk P ops I n0 Q (o::rest) R a:=by
 simp only[cH,x8]at b;exact Fc b.1 b.2 c h
def ym{Q}{R}{a}{rest}{o}(G)(c:gY o=true)(e:Region.wanted o (yielded ops a.tmps)=true)
 (f:∀v b,G v b->∀W z,b W->b (W.alloc z))(g:∃v b,G v b)
 (i:∀W,I W->R W->opens P I n0 W G ((execOp a.eval o).run P W))(h:∀v b,G v b->walk P ops I n0 Q rest b (a.put o.dst v)):walk P ops I n0 Q (o::rest) R a:=by
 unfold walk;rw[c,aq rfl];exact⟨G,⟨f,g,e,i⟩,h⟩
def aC{Q}{R}{a}{rest}{o}{v}(f)(args)(j:gY o=true)(l:Region.wanted o (yielded ops a.tmps)=true)
 (m:∀W W',I W->Below W.1.size W W'->I W')
 (n:∀W,(execOp a.eval o).run P W= .ok (.enter f args) W)(p:∀W,I W->R W->Calls P f args W fun e b=>e= .returned v/\Below W.1.size W b)(h:walk P ops I n0 Q rest (fun _=>True) (a.put o.dst v)):walk P ops I n0 Q (o::rest) R a:=
 ym (fun u b=>u=v/\b=fun _=>True) j l (fun u b ⟨_,c⟩ W z _=>by grind) ⟨v,_,rfl,rfl⟩
  (fun W g q=>by
    rw[n W];exact⟨rfl,(p W g q).m fun e r ⟨i,c⟩=>⟨v,_,i,⟨rfl,rfl⟩,m W r g c,trivial,Kept.gz c⟩⟩)
  (fun u b ⟨i,c⟩=>by grind)
end
end Bo
namespace Bl
section
variable{P:Program}{ops:Array Oper}{w0:World}
def iQ(P:Program)(ops:Array Oper)(w0:World)(Q:Act->Prop)(l:List Oper)(a:Act):Prop:=Bo.walk P ops (Below w0 w0) (some w0.1.size) (fun a _=>Q a) l (fun _=>True) a
def S4{w0}:Bo.Inv (Below w0.1.size w0) (some w0.1.size):=⟨fun W z h=>h.alloc h.size z,fun W W' n b e h a c=>by cases e;exact h.b a h.size (fun k e=>by injection e with e;rw[<-e];exact c),fun W n e h=>by cases e;exact h.size⟩
def j2{id}{Q}{a}{w}{l:List Oper}(n)(c:P.follows .mixedOrders=true)(f:(decide (n<=l.length)&&Bo.z6 .any l.toArray n none (List.range' 0 n))=true)
 (h:iQ P l.toArray w (fun g=>∀b,Below w.1.size w b->wpList P l.toArray Q (l.drop n) g b) (l.take n) a):(Code.region id l.toArray true).wp P Q a w:=
 Ju c (Bo.JF (sp:=none) (z:= .deferred none) (z2:= .deferred none) (S4 (w0:=w)) (fun x e=>by cases e) ⟨rfl,rfl,rfl,av _,fun _ _=>rfl⟩ n n (fun x e=>by cases e) f (Bo.Jm (fun _ _ h b g _=>h b g) _ _ _ h))
def sW{id}{Q}{a}{w}{l:List Oper}(m)(o oq)(z z2)(i:P.follows .mixedOrders=true)(j:(decide (m<=l.length)&&Bo.z6 .any l.toArray (m+2) (some (m,m+1)) (List.range' 0 m))=true)
 (r:l.toArray[m]? =some o)(s:o.guard=none)(t:∀(a:Act)(W:World),(execOp a.eval o).run P W= .ok (.value (.pointer W.1.size)) (W.alloc z))
 (u:l.toArray[m+1]? =some oq)(v:oq.guard=none)
 (h:iQ P l.toArray w (fun f=>∀b:Nat,yc P oq (f.put o.dst (.pointer b)) z z2 b/\
   ∀c,Below w.1.size w c->w.1.size<=b->c.1[b]? =some z2->wpList P l.toArray Q (l.drop (m+2)) ((f.put o.dst (.pointer b)).put oq.dst undef) c) (l.take m) a):(Code.region id l.toArray true).wp P Q a w:=by
 refine Ju i (Bo.JF (sp:=some {p:=m,dp:=o.dst,q:=m+1,oq,z,z2}) (z:=z) (z2:=z2) (S4 (w0:=w)) (fun x e=>⟨_,rfl⟩) ⟨rfl,rfl,rfl,av _,fun _ _=>rfl⟩ m (m+2) (fun x e=>?_) j (Bo.Jm (fun f _ g b=>⟨(g b).1,fun c y=>?_⟩) _ _ _ h))
 .cases e;exact⟨⟨⟨o,r,rfl,s,t⟩,u,v⟩,rfl,rfl⟩
 obtain⟨f,⟨n,A,C⟩,E⟩:=y;cases A;exact(g b).2 c f C E
def kr{Q}{a}(h:Q a):iQ P ops w0 Q [] a:=h
def dK{Q}{a}{rest}{o}{v}(c:Region.wanted o (yielded ops a.tmps)=true)
 (e:∀W,Below w0 w0 W->(execOp a.eval o).run P W= .ok (.value v) W)(h:iQ P ops w0 Q rest (a.put o.dst v)):iQ P ops w0 Q (o::rest) a:=by
 unfold iQ;cases f:Bo.gY o
 .exact Bo.Fc f c e h
 exact Bo.ym (fun u b=>u=v/\b=fun _=>True) f c (fun u b ⟨_,g⟩ W z _=>by grind) ⟨v,_,rfl,rfl⟩ (fun W g _=>by rw[e W g];exact⟨_,⟨rfl,rfl⟩,g,trivial,fun _ _ _ _ _=>rfl⟩) (fun u b ⟨g,i⟩=>by grind[iQ])
def mZ{Q}{a}{rest}{o}{v}(f)(args)(b:(Region.wanted o (yielded ops a.tmps)&&Bo.gY o)=true)
 (c:∀W,(execOp a.eval o).run P W= .ok (.enter f args) W)(g:∀W,Below w0 w0 W->Calls P f args W fun e i=>e= .returned v/\Below W.1.size W i)(h:iQ P ops w0 Q rest (a.put o.dst v)):iQ P ops w0 Q (o::rest) a:=by
 rw[cH]at b;exact Bo.aC f args b.2 b.1 (fun W W' h i=>h.t (i.m h.size)) c (fun W i _=>g W i) h
end
end Bl
namespace Bo
section
variable{P:Program}
def Lm{o}{a:Act}{W W'}{v xv v'}(s x)(t)(b:o.op= .call {callee:= .builtin .append,args:=#[s,x],argTypes:=#[t,t]})(c:a.eval s=v)(e:a.eval x=xv)
 (f:(Builtin.append_ #[t,t] o.type #[v,xv]).run P W= .ok v' W'):(execOp a.eval o).run P W= .ok (.value v') W':=by
 unfold execOp;simp only[b,resolve,invoke,builtin,eD,eZ,eY,xY,nR,pR,c,e,f]
def Ip{w:World}{b b'}{e}{size n}{v}{xs}(h:w.ownsRow b e size v n xs)(c:b'<=b):w.ownsRow b' e size v n xs:=by
 refine⟨h.1,?_⟩;obtain a|⟨g,f,i,a,j,l⟩:=h.2
 .grind
 exact .inr ⟨g,f,i,a,aO c j,l⟩
def Kt{w:World}{b}{e}{size n m g a:Nat}{xs ys}(h:w.ownsRow b e size (.slice g (n+m) a) (n+m) (xs++ys))(i:xs=n*size):w.ownsRow b e size (.slice g n a) n xs:=by
 refine⟨i,?_⟩;obtain⟨c,_⟩|⟨r,s,f,c,j,l,t,o,p,u⟩:=h.2
 .cases c
 injection c with e1 e2 q
 iterate 2(injection e1 with e1)
 subst e1 q;refine .inr ⟨g,a,f,rfl,j,l,by omega,o,p,?_⟩;have:(f.toList.take ((n+m)*size)).take (n*size)=xs:=by grind
 grind
def X5{w a:World}{r}(h:w.grownBy a none):w.grownBy a r:=⟨h.os,h.tape,h.output,h.size,fun k b _=>h.block k b (by simp)⟩
end
section
variable{P:Program}{ops:Array Oper}{I:World->Prop}{n0:Option Nat}
end
end Bo
section
def J(n:Nat)(g:Nat->Value):Array Value:=((List.range n).map g).toArray
@[simp] theorem dF(n)(g):(J n g).size=n:=by simp[J]
def EJ(n)(g)(k):(J n g)[k]? =if k<n then some (g k)else none:=by
 unfold J
 grind
def Es{n}{g}{k}(h:k<n):(J n g)[k]? =some (g k):=by rw[EJ,aq h]
def gP{n}{g h}(e:∀i,i<n->g i=h i):J n g=J n h:=by
 unfold J
 grind
def FW{n}{g h}(e:J n g=J n h)(i)(c:i<n):g i=h i:=by
 have:=cg (fun a:Array Value=>a[i]?) e;simpa[Es c]using this
def uR(C):C=J C.size fun i=>C[i]!:=by
 apply JB;intro i;rw[EJ]
 grind
def aU(g:Nat->Value)(k:Nat)(v:Value):Nat->Value:=fun i=>if i=k then v else g i
def Y1(g)(k)(v):aU g k v k=v:=aq rfl
def Gm(g){i k}(v)(h:i≠k):aU g k v i=g i:=O h
def XO(n)(g)(k)(v):(J n g).setIfInBounds k v=J n (aU g k v):=by
 apply JB;intro i;rw[TW,EJ,EJ,dF];unfold aU
 grind
def bm(g:Nat->Value)(c m:Nat)(h:Nat->Value):Nat->Value:=fun i=>if c<=i/\i<c+m then h (i-c)else g i
def Hr(g)(o m)(h){j}(c:j<m):bm g o m h (o+j)=h j:=by
 unfold bm
 grind
def kE(g)(o m)(h){i}(c:i<o\/o+m<=i):bm g o m h i=g i:=O (by omega)
def aj(w:World)(b:Nat)(t:TypeId)(n:Nat)(g:Nat->Value):Prop:=w.1[b]? =some (.cells (J n g) t (0,0))
namespace aj
variable{w:World}{b n:Nat}{t:TypeId}{g:Nat->Value}
def lt(h:aj w b t n g):b<w.1.size:=(gS.1 h).1
def C(h:aj w b t n g)(k)(c:k<n):w.cell? ⟨b,k,none⟩=some (g k):=by rw[lN w b k _ _ _ h,Es c]
def free(h:aj w b t n g)(k):w.frozen? ⟨b,k,none⟩=false:=Gr w b k _ _ h
def new(w:World)(t)(n)(g):aj (w.alloc (.cells (J n g) t)) w.1.size t n g:=jZ w _
def dq(w:World)(t)(n)(g)(C)(c:C=J n g):aj (w.alloc (.cells C t)) w.1.size t n g:=by subst c;exact new w t n g
def alloc(h:aj w b t n g)(o):aj (w.alloc o) b t n g:=(fF _ _ _ h.lt).t h
def drew(h:aj w b t n g):aj w.drew b t n g:=h
def Z{k}{w'}(h:aj w b t n g)(c:Below k w w')(e:b<k):aj w' b t n g:=(c.block b e).t h
def K{w'}{row}(h:aj w b t n g)(c:w.grownBy w' row)(e:some b≠row):aj w' b t n g:=(c.block b h.lt e).t h
def set(h:aj w b t n g)(k)(v):aj (w.setCell ⟨b,k,none⟩ v) b t n (aU g k v):=by
 have:=Rf.IV (i:=k) v h;unfold aj;rw[this,XO]
def other(h:aj w b t n g)(p)(v)(c:b≠p.block):aj (w.setCell p v) b t n g:=(cP _ _ _ _ c).t h
def congr{h}(c:aj w b t n g)(e:∀i,i<n->g i=h i):aj w b t n h:=by unfold aj;rw[<-gP e];exact c
def range(h:aj w b t n g)(o m)(c:o+m<=n):w.rangeAt b o ((List.range m).map fun i=>g (o+i)):=by
 intro j v e;have:j<m:=by grind
 rw[h.C (o+j) (by omega)]
 grind
def there(h:aj w b t n g)(o m)(c:o+m<=n):w.there b o m:=fun j e=>⟨by rw[h.C (o+j) (by omega)];rfl,h.free _⟩
def setCells:∀(m c:Nat)(f:Nat->Value){w:World}{g:Nat->Value},aj w b t n g->aj (w.setCells b c ((List.range m).map f)) b t n (bm g c m f)
 |0,c,f,w,g,h=>h.congr fun i _=>(kE g c 0 f (by omega)).s
 |m+1,c,f,w,g,h=>by
  rw[Na,nR,pN,World.setCells];refine(setCells m (c+1) (f∘Nat.succ) (h.set c (f 0))).congr fun i e=>?_;unfold bm aU
  grind
end aj
def vx:∀(vs:List Value)(w:World)(b c),w.grownBy (w.setCells b c vs) (some b)
 |[],w,b,c=>⟨rfl,rfl,rfl,av _,fun _ _ _=>rfl⟩
 |v::r,w,b,c=>by
  have h:=vx r (w.setCell ⟨b,c,none⟩ v) b (c+1);exact⟨h.os,h.tape,h.output,aO (by simp_all) h.size,fun k i f=>(h.block k (by simp_all) f).t (cP _ _ _ _ (fun e=>f (by rw[e])))⟩
def mL(w:World)(b o)(v):w.grownBy (w.setCell ⟨b,o,none⟩ v) (some b):=vx [v] w b o
def sg(n)(g):(J n g).toList=(List.range n).map g:=rfl
variable{P:Program}{ops:Array Oper}{rest:List Oper}{op:Oper}{a:Act}{w:World}{Q:Exit->Act->World->Prop}
def nF(c:op.guard=none)(ty)(x)(e:op.op= .load ty x)(b o m n)(t)(g)(f:a.eval x= .pointer (some ⟨b,o,none⟩))
 (j:aj w b t n g)(l:o+m<=n)(d)(p:P.underlying ty=some d)(q:d.isRow=true)(r:(P.info? ty).map (·.size)=some m)
 (h:wpList P ops Q rest (a.put op.dst (J m fun i=>g (o+i))) w):wpList P ops Q (op::rest) a w:=
 iI c ty x e b o f _ d (j.range o m l) p q (by grind) h
def eP(j:op.guard=none)(ty)(x y)(l:op.op= .store ty x y)(b o m n)(t)(g f)(p:a.eval x= .pointer (some ⟨b,o,none⟩))(q:a.eval y= .agg (J m f))
 (e:aj w b t n g)(r:o+m<=n)(s:(P.info? ty).map (·.size)=some m)(u:∀i,i<m->(f i).oneCell'=true)
 (h:∀c,aj c b t n (bm g o m f)->w.grownBy c (some b)->wpList P ops Q rest (a.put op.dst undef) c):wpList P ops Q (op::rest) a w:=
 wpList_store_mid j ty x y l b o _ p q (by rw[dF];exact e.there o m r) (by simp_all) (CU fun v c=>by
  grind) (h _ (by rw[sg];exact e.setCells m o f) (vx _ _ _ _))
def wpList_store_one(j:op.guard=none)(ty)(x y)(l:op.op= .store ty x y)(b c n)(t)(g)(v)(m:a.eval x= .pointer (some ⟨b,c,none⟩))(o:a.eval y=v)
 (f:aj w b t n g)(s:c<n)(p:(P.info? ty).map (·.size)=some 1)(i:v.oneCell'=true)
 (h:∀e,aj e b t n (aU g c v)->w.grownBy e (some b)->wpList P ops Q rest (a.put op.dst undef) e):wpList P ops Q (op::rest) a w:=by
 have e:v.cells=#[v]:=by cases v<;>first|rfl|cases i
 refine Ca j fun _ q=>?_;have r:(storeVar ty ⟨b,c,none⟩ v).run P w=(storeVar ty ⟨b,c,none⟩ (.agg #[v])).run P w:=by
  unfold storeVar;rw[e];rfl
 unfold Oper.wp execOp;simp only[l,m,o,Instr.storeAt,Instr.sureAddr,eD,eZ,eY,r,(run_storeVar_mid (P:=P) w b c ty #[v] (f.there c 1 (by omega)) p (by simp[i]))];exact q _ _ (h _ (f.set c v) (mL _ _ _ _))
def Y(v:UInt8):Int:=v.toNat
instance:Coe UInt8 Value:=⟨fun v=>.int .u8 (Y v)⟩
def iW(v):0<=Y v:=by unfold Y;omega
def pC(v):Y v<256:=by unfold Y;have:=v.toNat_lt;omega
def lQ{a b}:Y a=Y b↔a=b:=by unfold Y;rw[Int.ofNat_inj];exact tR
def qD(k:Nat)(h:k<256):Y (UInt8.ofNat k)=(k:Int):=by unfold Y;rw[pw,Ga h]
def rj(a b):IntKind.u8.wrap (Y a+Y b)=Y (a+b):=by
 unfold Y;simp[IntKind.wrap,IntKind.bits,IntKind.signed]
def EM(a b):IntKind.u8.wrap (Y a-Y b)=Y (a-b):=by
 unfold Y;rw[UInt8.toNat_sub];have:=b.toNat_lt;simp[IntKind.wrap,IntKind.bits,IntKind.signed];omega
def Ba(a b):decide (Y a<Y b)=decide (a<b):=by
 unfold Y;apply Lg.2;rw[UInt8.lt_iff_toNat_lt];omega
end
structure Arg where
 cY:Bool
 n:UInt8
structure Ins where
 op:UInt8
 dst:UInt8
 loc:UInt8
 a:Arg
 b:Arg
 fn:UInt8
 mode:UInt8
 skip:UInt8
structure ol(x:Ins):Prop where
 dst:x.dst.toNat<8
 a:x.a.cY=true->x.a.n.toNat<8
 b:x.b.cY=true->x.b.n.toNat<8
 qf:1<=x.op.toNat
 iY:x.op.toNat<=8
structure Ev where
 kind:UInt8
 loc:UInt8
 val:UInt8
 mode:UInt8
 ins:UInt8
 pos:UInt8
 data:BitVec 32
 A:BitVec 32
 ff:BitVec 32
structure aK where
 pc:Nat
 L:Nat->UInt8
 dI:Nat->BitVec 32
 control:BitVec 32
 many:Nat
 ev:Nat->Ev
def P{a:Type}(f:Nat->a)(k:Nat)(v:a):Nat->a:=fun i=>if i=k then v else f i
def bc{α}(f)(k)(v:α):P f k v k=v:=aq rfl
def bf{α}(f){i k}(v:α)(h:i≠k):P f k v i=f i:=O h
def iM(i:Nat):BitVec 32:=BitVec.ofNat 32 (2^i)
def jN:Ev:=⟨0,0,0,0,0,0,0,0,0⟩
def jL:aK:=⟨0,fun _=>0,fun _=>0,0,0,fun _=>jN⟩
def bU(r:aK)(a:Arg):UInt8:=if a.cY then r.L a.n.toNat else a.n
def cW(r:aK)(a:Arg):BitVec 32:=if a.cY then r.dI a.n.toNat else 0
def iZ(r:aK)(a b c e:UInt8)(data:BitVec 32):aK:=
 {r with many:=r.many+1,ev:=P r.ev r.many ⟨a,b,c,e,UInt8.ofNat r.pc,UInt8.ofNat r.many,data,r.control,(r.ev r.many).ff⟩}
def oN(r:aK)(dst:Nat)(a:UInt8)(dI:BitVec 32):aK:={r with L:=P r.L dst a,dI:=P r.dI dst dI}
def yp(r:aK)(x:Ins)(a:UInt8):aK:=oN (iZ r 1 x.loc a x.mode 0) x.dst.toNat a (iM r.many)
def yj(r:aK)(x:Ins):aK:=iZ r 2 x.loc (bU r x.a) x.mode (cW r x.a)
def nL(fn a b:UInt8):UInt8:=if fn=1 then a+b else if fn=2 then a-b else a^^^b
def wW(r:aK)(x:Ins):aK:=oN r x.dst.toNat (nL x.fn (bU r x.a) (bU r x.b)) (cW r x.a|||cW r x.b)
def Dq(e:Ev)(s:BitVec 32):Ev:={e with ff:=s}
def xB(e:Ev)(s:BitVec 32):Ev:={e with data:=s}
def xM(e:Ev)(s:BitVec 32):Ev:={e with A:=s}
def nC(r:aK)(x:Ins)(bZ b:UInt8)(dI:BitVec 32):aK:=
 let a:=iZ (iZ r 1 x.loc bZ 3 0) 2 x.loc b 3 dI
 oN {a with ev:=P a.ev (r.many+1) (Dq (a.ev (r.many+1)) (iM r.many))} x.dst.toNat bZ (iM r.many)
def zP(r:aK)(x:Ins)(a:UInt8):aK:=nC r x a (bU r x.a) (cW r x.a)
def xN(r:aK)(x:Ins)(b:UInt8):aK:=
 let a:=nC r x b (b+bU r x.a) (cW r x.a)
 {a with ev:=P a.ev (r.many+1) (xB (a.ev (r.many+1)) ((a.ev (r.many+1)).data|||(a.ev (r.many+1)).ff))}
def qk(r:aK)(x:Ins)(b:UInt8):aK:=
 if b=bU r x.a then
  let a:=nC r x b (bU r x.b) (cW r x.b)
  {a with ev:=P a.ev (r.many+1) (xM (a.ev (r.many+1)) ((a.ev (r.many+1)).A|||((a.ev (r.many+1)).ff|||cW r x.a)))}
 else oN (iZ r 1 x.loc b 3 0) x.dst.toNat b (iM r.many)
def xg(r:aK)(x:Ins):aK:=iZ r 3 0 0 x.mode 0
def qE(fn a b:UInt8):Bool:=if fn=4 then a==b else if fn=5 then a !=b else decide (a<b)
def pj(r:aK)(x:Ins):aK:=
 {r with control:=r.control|||(cW r x.a|||cW r x.b),pc:=if qE x.fn (bU r x.a) (bU r x.b)then r.pc+x.skip.toNat else r.pc}
def eF(r:aK)(x:Ins)(a:UInt8):aK:=
 match x.op.toNat with
 |1=>yp r x a
 |2=>yj r x
 |3=>wW r x
 |4=>zP r x a
 |5=>xN r x a
 |6=>qk r x a
 |7=>xg r x
 |_=>pj r x
def bw(r:aK)(x:Ins)(b:UInt8):aK:=let a:=eF r x b;{a with pc:=a.pc+1}
def V(s:BitVec 32):Int:=s.toNat
instance:Coe (BitVec 32) Value:=⟨fun v=>.int .u32 (V v)⟩
def Yx{s t}:V s=V t↔s=t:=⟨fun h=>sA (by unfold V at h;omega),fun h=>by rw[h]⟩
def Cv(s):BitVec.ofInt 32 (V s)=s:=by unfold V;rw[TD];simp
def Ng(s):IntKind.u32.wrap (V s)=V s:=by unfold V;have:=s.isLt;simp[IntKind.wrap,IntKind.bits,IntKind.signed];omega
def Hw(s t):bits .or .u32 (V s) (V t)=V (s|||t):=by
 show IntKind.u32.wrap ((BitVec.ofInt 32 (V s)|||BitVec.ofInt 32 (V t)).toNat:Int)=_;rw[Cv,Cv];exact Ng _
def E4(s t):bits .and .u32 (V s) (V t)=V (s&&&t):=by
 show IntKind.u32.wrap ((BitVec.ofInt 32 (V s)&&&BitVec.ofInt 32 (V t)).toNat:Int)=_;rw[Cv,Cv];exact Ng _
def Ux(s):IntKind.u32.wrap (V s-1)=V (s-1#32):=by
 unfold V;simp[IntKind.wrap,IntKind.bits,IntKind.signed];omega
def CF(n):IntKind.u32.wrap ((2:Int)^n)=V (iM n):=by
 unfold iM V;simp[IntKind.wrap,IntKind.bits,IntKind.signed]
def DW(s):(V s==0)=(s==0#32):=by
 rw[kG];simp only[fg];exact⟨fun h=>Yx.1 h,fun h=>by rw[h];rfl⟩
def Fz(s):(V s !=0)=(s !=0#32):=by simp only[bne,DW]
def kf(a b):(Y a==Y b)=(a==b):=by
 rw[kG];simp only[fg];exact lQ
def uq(a b):(Y a !=Y b)=(a !=b):=by simp only[bne,kf]
def QS(a b):bits .xor .u8 (Y a) (Y b)=Y (a^^^b):=by
 show IntKind.u8.wrap ((BitVec.ofInt 8 (Y a)^^^BitVec.ofInt 8 (Y b)).toNat:Int)=_;unfold Y;have:(a.toBitVec^^^b.toBitVec).toNat=a^^^b:=by simp_all
 simp[IntKind.wrap,IntKind.bits,IntKind.signed];omega
def eS(e:Ev):Nat->Value
 |0=> .int .i64 0
 |1=> .int .u8 (Y e.kind)
 |2=> .int .u8 (Y e.loc)
 |3=> .int .u8 (Y e.val)
 |4=> .int .u8 (Y e.mode)
 |5=> .int .u8 (Y e.ins)
 |_=> .int .u8 (Y e.pos)
def R(r:aK)(i:Nat):Value:=
 if i=0 then .int .i64 r.pc
 else if i<9 then .int .u8 (Y (r.L (i-1)))
 else if i<17 then .int .u32 (V (r.dI (i-9)))
 else if i=17 then .int .u32 (V r.control)
 else if i=18 then .int .i64 r.many
 else if i<187 then eS (r.ev ((i-19)/7)) ((i-19)%7)
 else if i<211 then .int .u32 (V (r.ev (i-187)).data)
 else if i<235 then .int .u32 (V (r.ev (i-211)).A)
 else .int .u32 (V (r.ev (i-235)).ff)
def XV(r):R r 0= .int .i64 r.pc:=rfl
def Uc(r)(k)(h:k<8):R r (1+k)= .int .u8 (Y (r.L k)):=by
 unfold R
 grind
def Nw(r)(k)(h:k<8):R r (9+k)= .int .u32 (V (r.dI k)):=by
 unfold R
 grind
def wV(r):R r 17= .int .u32 (V r.control):=rfl
def BO(r):R r 18= .int .i64 r.many:=rfl
def JE(r)(k)(h:k<24):R r (187+k)= .int .u32 (V (r.ev k).data):=by
 unfold R
 grind
def I5(r)(k)(h:k<24):R r (211+k)= .int .u32 (V (r.ev k).A):=by
 unfold R
 grind
def E6(r)(k):R r (235+k)= .int .u32 (V (r.ev k).ff):=by
 unfold R
 grind
def FD(r)(k j)(h:k<24)(a:j<7):R r (19+k*7+j)=eS (r.ev k) j:=by
 unfold R
 grind
def bg{w e f:World}{b}(a:w.grownBy e (some b))(c:e.grownBy f (some b)):w.grownBy f (some b):=
 ⟨c.os.t a.os,c.tape.t a.tape,c.output.t a.output,aO a.size c.size,fun k g h=>(c.block k (aW g a.size) h).t (a.block k g h)⟩
def qX{w a:World}{r}(h:w.drew.grownBy a r):w.grownBy a r:=⟨h.os,h.tape,h.output,h.size,h.block⟩
def ae{w a:World}{r}(h:w.grownBy a r):w.grownBy a.drew r:=⟨h.os,h.tape,h.output,h.size,h.block⟩
abbrev bz(w:World)(b:Nat)(r:aK):Prop:=aj w b 200 259 (R r)
def bz.nT{w}{b}{g}{r}(h:aj w b 200 259 g)(e:∀i,i<259->g i=R r i):bz w b r:=h.congr e
def bz.drew{w}{b}{r}(h:bz w b r):bz w.drew b r:=h
def bz.Z{k}{w w'}{b}{r}(h:bz w b r)(f:Below k w w')(g:b<k):bz w' b r:=aj.Z h f g
def bz.alloc{w}{b}{r}(h:bz w b r)(o):bz (w.alloc o) b r:=aj.alloc h o
def Fk(r)(p:Nat):∀i,i<259->aU (R r) (0) (.int .i64 p) i=R {r with pc:=p} i:=fun i _=>by
 unfold aU;by_cases e:i=0
 .subst e;rfl
 unfold R
 grind
def bz.ZW{w}{b}{r}(h:bz w b r)(p:Nat):bz (w.setCell b (.int .i64 p)) b {r with pc:=p}:=
 (h.set (0) _).congr (Fk r p)
def adW(r)(k)(a:k<8)(v:UInt8):∀i,i<259->aU (R r) (1+k) v i=R {r with L:=P r.L k v} i:=fun i _=>by
 unfold aU;by_cases e:i=1+k
 .subst e;rw[aq rfl,Uc _ _ a];simp only[bc]
 rw[O e];unfold R;simp only[];split;·rfl
 split
 .rw[bf _ _ (by omega)]
 rfl
def bz.Wk{w}{b}{r}(h:bz w b r)(k)(f:k<8)(v:UInt8):bz (w.setCell ⟨b,1+k,none⟩ v) b {r with L:=P r.L k v}:=
 (h.set (1+k) _).congr (adW r k f v)
def Xh(r)(k)(a:k<8)(v:BitVec 32):∀i,i<259->aU (R r) (9+k) v i=R {r with dI:=P r.dI k v} i:=fun i _=>by
 unfold aU;by_cases e:i=9+k
 .subst e;rw[aq rfl,Nw _ _ a];simp only[bc]
 rw[O e];unfold R;simp only[];split;·rfl
 split;·rfl
 split
 .rw[bf _ _ (by omega)]
 rfl
def bz.VV{w}{b}{r}(h:bz w b r)(k)(f:k<8)(v:BitVec 32):bz (w.setCell ⟨b,9+k,none⟩ v) b {r with dI:=P r.dI k v}:=
 (h.set (9+k) _).congr (Xh r k f v)
def Bw(b)(r)(dst f:UInt8)(dI:BitVec 32)(w)(a:bz w b r)(g:dst.toNat<8):
 Calls prog 257 #[.pointer b,dst,f,dI] w fun e h=>e= .returned (.tuple #[])/\bz h b (oN r dst.toNat f dI)/\w.grownBy h (some b):=by
 have i:Y dst=((dst.toNat:Nat):Int):=rfl;generalize dst.toNat=k at g i⊢;have:=a.C (1+k) (by omega);have:=a.free (1+k);have c:=a.Wk k g f;have:=c.C (9+k) (by omega);have:=c.free (9+k);have:(0:Int)<=(k:Int):=by omega
 have:(k:Int)<8:=by omega
 have j:=aD (c.VV k g dI) c a;clear c a;go_enter func257,ntmps257;go_wp2
 go_end0
 exact⟨rfl,j.a,bg (mL _ _ _ _) (mL _ _ _ _)⟩
def iC(b)(r)(a)(w)(m:bz w b r)(h:a.cY=true->a.n.toNat<8):
 Calls prog 258 #[.pointer b,.agg #[a.cY,a.n]] w (Rs (.tuple #[(bU r a),(cW r a)]) w):=by
 obtain⟨o,n⟩:=a;cases o
 .have e:=ba w (.cells #[.bool false,n] 34);go_enter func258,ntmps258;go_wp2
  go_ret2
  exact⟨rfl,e⟩
 have f:=h rfl;have g:Y n=((n.toNat:Nat):Int):=rfl;simp only[bU,cW,aq,g];generalize n.toNat=k at f g⊢;have i:=m.alloc (.cells #[.bool true,.int .u8 k] 34);have e:=ba w (.cells #[.bool true,.int .u8 k] 34);have j:=i.C (1+k) (by omega);rw[Uc _ _ f]at j;have l:=i.C (9+k) (by omega);rw[Nw _ _ f]at l;have p:(w.alloc (.cells #[.bool true,.int .u8 k] 34)).cell? ⟨w.1.size,1,none⟩=some (.int .u8 k):=by simp_all
 have:=fun d c=>bO j d c;have:=fun d c=>bO l d c;have:=fun d c=>bO p d c;have:(0:Int)<=(k:Int):=by omega
 have:(k:Int)<8:=by omega
 clear g h;go_enter func258,ntmps258
 go_wp2_with fail
 refine bV (by kernel_rfl) ?_
 repeat(first|go_big_quiet_step (fail)|quiet_step (fail))
 refine qn fun W1 g=>?_;go_wp2
 go_ret2
 exact⟨rfl,e.t (g.m e.size)⟩
def iy:prog.underlying 143=some (.struct (prog.fieldsOf 143)):=by kernel_rfl
def eH:(prog.info? 143).map (·.size)=some 7:=by kernel_rfl
def bz.Yq{w}{b}{r}(h:bz w b r)(k)(g:k<24)(e)(o:e.data=(r.ev k).data)(u:e.A=(r.ev k).A)(y:e.ff=(r.ev k).ff):
 ∀f,aj f b 200 259 (bm (R r) (19+k*7) 7 (eS e))->bz f b {r with ev:=P r.ev k e}:=fun f A=>
 A.congr fun i _=>by
  unfold bm;by_cases hi:19+k*7<=i/\i<19+k*7+7
  .rw[aq hi];obtain⟨j,rfl⟩:∃j,i=19+k*7+j:=⟨i-(19+k*7),by omega⟩
   rw[FD _ _ _ g (by omega),tE];simp only[bc]
  rw[O hi];unfold R;simp only[];split;·rfl
  split;·rfl
  split;·rfl
  split;·rfl
  split;·rfl
  split
  .rw[bf _ _ (by omega)]
  split
  .by_cases e2:i-187=k
   .rw[e2,bc,o]
   rw[bf _ _ e2]
  split
  .by_cases e2:i-211=k
   .rw[e2,bc,u]
   rw[bf _ _ e2]
  by_cases e2:i-235=k
  .rw[e2,bc,y]
  rw[bf _ _ e2]
def Qu(r)(k)(b:k<24)(v:BitVec 32):∀i,i<259->aU (R r) (187+k) v i=R {r with ev:=P r.ev k (xB (r.ev k) v)} i:=fun i _=>by
 have a:∀j,(P r.ev k (xB (r.ev k) v) j).A=(r.ev j).A/\(P r.ev k (xB (r.ev k) v) j).ff=(r.ev j).ff/\eS (P r.ev k (xB (r.ev k) v) j)=eS (r.ev j):=fun j=>by
  unfold P;split
  .rename_i h;subst h;exact⟨rfl,rfl,by funext m;obtain _|_|_|_|_|_|m:=m<;>rfl⟩
  grind
 unfold aU;by_cases e:i=187+k
 .subst e;rw[aq rfl,JE _ _ b];simp only[bc];rfl
 rw[O e];unfold R;simp only[];rw[(a _).1,(a _).2.1,(a _).2.2];split;·rfl
 split;·rfl
 split;·rfl
 split;·rfl
 split;·rfl
 split;·rfl
 split
 .rw[bf _ _ (by omega)]
 rfl
def bz.Xm{w}{b}{r}(h:bz w b r)(k)(f:k<24)(v:BitVec 32):bz (w.setCell ⟨b,187+k,none⟩ v) b {r with ev:=P r.ev k (xB (r.ev k) v)}:=
 (h.set (187+k) _).congr (Qu r k f v)
def M6(r)(k)(b:k<24)(v:BitVec 32):∀i,i<259->aU (R r) (211+k) v i=R {r with ev:=P r.ev k (xM (r.ev k) v)} i:=fun i _=>by
 have a:∀j,(P r.ev k (xM (r.ev k) v) j).data=(r.ev j).data/\(P r.ev k (xM (r.ev k) v) j).ff=(r.ev j).ff/\eS (P r.ev k (xM (r.ev k) v) j)=eS (r.ev j):=fun j=>by
  unfold P;split
  .rename_i h;subst h;exact⟨rfl,rfl,by funext m;obtain _|_|_|_|_|_|m:=m<;>rfl⟩
  grind
 unfold aU;by_cases e:i=211+k
 .subst e;rw[aq rfl,I5 _ _ b];simp only[bc];rfl
 rw[O e];unfold R;simp only[];rw[(a _).1,(a _).2.1,(a _).2.2];split;·rfl
 split;·rfl
 split;·rfl
 split;·rfl
 split;·rfl
 split;·rfl
 split;·rfl
 split
 .rw[bf _ _ (by omega)]
 rfl
def bz.XN{w}{b}{r}(h:bz w b r)(k)(f:k<24)(v:BitVec 32):bz (w.setCell ⟨b,211+k,none⟩ v) b {r with ev:=P r.ev k (xM (r.ev k) v)}:=
 (h.set (211+k) _).congr (M6 r k f v)
def U0(r)(k)(b:k<24)(v:BitVec 32):∀i,i<259->aU (R r) (235+k) v i=R {r with ev:=P r.ev k (Dq (r.ev k) v)} i:=fun i _=>by
 have a:∀j,(P r.ev k (Dq (r.ev k) v) j).data=(r.ev j).data/\(P r.ev k (Dq (r.ev k) v) j).A=(r.ev j).A/\eS (P r.ev k (Dq (r.ev k) v) j)=eS (r.ev j):=fun j=>by
  unfold P;split
  .rename_i h;subst h;exact⟨rfl,rfl,by funext m;obtain _|_|_|_|_|_|m:=m<;>rfl⟩
  grind
 unfold aU;by_cases e:i=235+k
 .subst e;rw[aq rfl,E6];simp only[bc];rfl
 rw[O e];unfold R;simp only[];rw[(a _).1,(a _).2.1,(a _).2.2];split;·rfl
 split;·rfl
 split;·rfl
 split;·rfl
 split;·rfl
 split;·rfl
 split;·rfl
 split;·rfl
 rw[bf _ _ (by omega)]
def aba(r)(m:Nat):∀i,i<259->aU (R r) (18) (.int .i64 m) i=R {r with many:=m} i:=fun i _=>by
 unfold aU;by_cases e:i=18
 .subst e;rfl
 unfold R
 grind
def bz.VQ{w}{b}{r}(h:bz w b r)(m:Nat):bz (w.setCell ⟨b,18,none⟩ (.int .i64 m)) b {r with many:=m}:=
 (h.set (18) _).congr (aba r m)
def yM(r)(v:BitVec 32):∀i,i<259->aU (R r) (17) v i=R {r with control:=v} i:=fun i _=>by
 unfold aU;by_cases e:i=17
 .subst e;rfl
 unfold R
 grind
def NT{α}(f)(k)(u v:α):P (P f k u) k v=P f k v:=by
 unfold P
 grind
def afT(b:Nat)(r:aK)(f g j l:UInt8)(data:BitVec 32)(w:World)(a:bz w b r)(n:r.many<24)(t:r.pc<256):
 Calls prog 256 #[.pointer b,f,g,j,l,data] w fun e u=>
  e=(Value.int .i64 r.many)/\bz u b (iZ r f g j l data)/\w.grownBy u (some b):=by
 have y:=a.C 0 (dr rfl);rw[XV]at y;have o:=a.C 18 (dr rfl);rw[BO]at o;have:(0:Int)<=(r.many:Int):=by omega
 have:(r.many:Int)<24:=by omega
 have:IntKind.u8.wrap (r.pc:Int)=Y (UInt8.ofNat r.pc):=by rw[qD _ t];simp[IntKind.wrap,IntKind.bits,IntKind.signed];omega
 have:IntKind.u8.wrap (r.many:Int)=Y (UInt8.ofNat r.many):=by rw[qD _ (by omega)];simp[IntKind.wrap,IntKind.bits,IntKind.signed];omega
 have⟨e,c⟩:=eX (⟨f,g,j,l,UInt8.ofNat r.pc,UInt8.ofNat r.many,(r.ev r.many).data,(r.ev r.many).A,(r.ev r.many).ff⟩:Ev);have:#[Value.int .i64 0,f,g,j,l,(UInt8.ofNat r.pc),(UInt8.ofNat r.many)]=J 7 (eS e):=by subst c;rfl
 have m:=H c;have v:=H a;clear c a;go_enter func256,ntmps256;go_wp2;go_still_tail 17,(by kernel_rfl)
 change wpList _ _ _ _ _ w.drew;refine eP rfl 143 (.tmp 34) (.tmp 31) rfl b (19+r.many*7) 7 259 200 (R r) (eS e) rfl rfl v.y.drew (by omega) eH (fun i a=>by unfold eS;split<;>rfl) ?_;intro p z A;have q:=bz.Yq v.y r.many n e (by rw[m.y]) (by rw[m.y]) (by rw[m.y]) p z;have:=q.C (187+r.many) (by omega);have:=q.free (187+r.many);have a:=q.Xm r.many n data;have C:=a.C 17 (dr rfl);rw[wV]at C;have E:=bg A (mL p b (187+r.many) data);have s:=aA n t
 go_wp2_with fail
 generalize p.setCell ⟨b,187+r.many,none⟩ data=wb at*
 go_still_tail 9,(by kernel_rfl)
 change wpList _ _ _ _ _ wb.drew;have:=a.C (211+r.many) (by have:=s.a;omega);have:=a.free (211+r.many);have F:=a.XN r.many s.a r.control;have I:w.grownBy (wb.setCell ⟨b,211+r.many,none⟩ r.control) (some b):=bg (qX E) (mL _ b _ _);have o:=a.C 18 (dr rfl);rw[BO]at o;have:=a.free 18;have:IntKind.i64.wrap ((r.many:Int)+1)=((r.many+1:Nat):Int):=by rw[nk];have:=s.a;omega
 have x:=aA (F.VQ (r.many+1)) (bg I (mL _ b 18 (.int .i64 (r.many+1:Nat))))
 go_step
 go_wp2;go_ret;refine⟨rfl,?_,ae x.B⟩;have h:=x.a;have c:=m.y;subst c;simp only[NT,bc]at h;exact h
section
def aV(x:Ins):Array Value:=#[.int .u8 (Y x.op),.int .u8 (Y x.dst),.int .u8 (Y x.loc),.bool x.a.cY,.int .u8 (Y x.a.n),.bool x.b.cY,.int .u8 (Y x.b.n),.int .u8 (Y x.fn),.int .u8 (Y x.mode),.int .u8 (Y x.skip)]
def eO(w:World)(c:Nat)(x:Ins):Prop:=w.1[c]? =some (.cells (aV x) 36 (0,0))
def eO.C{w}{c}{x}(h:eO w c x)(k):w.cell? ⟨c,k,none⟩=(aV x)[k]?:=lN w c k _ _ _ h
def eO.new(w:World)(x):eO (w.alloc (.cells (aV x) 36)) w x:=jZ w _
def eO.lt{w}{c}{x}(h:eO w c x):c<w:=(gS.1 h).1
def eO.K{w w'}{c}{x}{row}(h:eO w c x)(f:w.grownBy w' row)(g:some c≠row):eO w' c x:=(f.block c h.lt g).t h
def eO.Z{k}{w w'}{c}{x}(h:eO w c x)(f:Below k w w')(g:c<k):eO w' c x:=(f.block c g).t h
def rn(w:World)(o)(b):w.grownBy (w.alloc o) (some b):=⟨rfl,rfl,rfl,by simp,fun _ a _=>fF _ _ _ a⟩
def dD{w a:World}(h:Below w w a)(r):w.grownBy a r:=⟨h.os,h.tape,h.output,h.size,fun k b _=>h.block k b⟩
def te:(prog.info? 195).map (·.size)=some 1:=by kernel_rfl
def vz(f:FuncId)(g:aK->Ins->UInt8->aK):Prop:=∀(b:Nat)(r:aK)(x:Ins)(a:UInt8)(w:World),bz w b r->ol x->r.many+2<=24->r.pc<256->
 Calls prog f #[.pointer b,.agg (aV x),.int .u8 (Y a)] w fun e c=>e= .returned (.tuple #[])/\bz c b (g r x a)/\w.grownBy c (some b)
def AL(x):(aV x)[0]? =x.op:=rfl
def AK(x):(aV x)[1]? =x.dst:=rfl
def BN(x):(aV x)[2]? =x.loc:=rfl
def Bk(x):(aV x)[3]? =x.a.cY:=rfl
def y7(x):(aV x)[4]? =x.a.n:=rfl
def zU(x):(aV x)[5]? =x.b.cY:=rfl
def BP(x):(aV x)[6]? =x.b.n:=rfl
def zR(x):(aV x)[7]? =x.fn:=rfl
def zQ(x):(aV x)[8]? =x.mode:=rfl
def zC(x):(aV x)[9]? =x.skip:=rfl
def AR(b)(r)(kind loc val mode)(data){zk zl zv zm zd}(c:zk=Y kind)(f:zl=Y loc)(g:zv=Y val)(h:zm=Y mode)(i:zd=V data)(w)(j:bz w b r)(l:r.many<24)(m:r.pc<256):
 Calls prog 256 #[.pointer b,.int .u8 zk,.int .u8 zl,.int .u8 zv,.int .u8 zm,.int .u32 zd] w fun e a=>
  e=(Value.int .i64 r.many)/\bz a b (iZ r kind loc val mode data)/\w.grownBy a (some b):=by
 subst c f g h i;exact afT b r kind loc val mode data w j l m
def eO.cells{w}{c}{x}(h:eO w c x):w.cell? (c:Nat)=some (.int .u8 (Y x.op))/\w.cell? ⟨c,1,none⟩=some (.int .u8 (Y x.dst))/\w.cell? ⟨c,2,none⟩=some (.int .u8 (Y x.loc))/\
 w.cell? ⟨c,3,none⟩=some (.bool x.a.cY)/\w.cell? ⟨c,4,none⟩=some (.int .u8 (Y x.a.n))/\w.cell? ⟨c,5,none⟩=some (.bool x.b.cY)/\w.cell? ⟨c,6,none⟩=some (.int .u8 (Y x.b.n))/\w.cell? ⟨c,7,none⟩=some (.int .u8 (Y x.fn))/\w.cell? ⟨c,8,none⟩=some (.int .u8 (Y x.mode))/\w.cell? ⟨c,9,none⟩=some (.int .u8 (Y x.skip)):=
 ⟨h.C 0,h.C 1,h.C 2,h.C 3,h.C 4,h.C 5,h.C 6,h.C 7,h.C 8,h.C 9⟩
attribute [local go_sem] CF Hw E4 DW Fz AL AK BN Bk y7 zU BP zR zQ zC
def MZ(b:Nat)(r:aK)(x:Ins)(bZ a:UInt8)(dI:BitVec 32)(w:World)(p:bz w b r)(f:ol x)(u:r.many+2<=24)(i:r.pc<256):
 Calls prog 259 #[.pointer b,(aV x),bZ,a,dI] w fun e q=>
  e=(Value.int .i64 (r.many+1:Nat))/\bz q b (nC r x bZ a dI)/\w.grownBy q (some b):=by
 have v:w≠b:=fun e=>by have:=p.lt;omega
 have c:=dH (eO.new w x) (p.alloc (.cells (aV x) 36)) (rn w (.cells (aV x) 36) b) v f u i;clear f;go_enter func259,ntmps259
 go_wp2_with fail
 refine(AR b r 1 x.loc bZ 3 0 rfl rfl rfl rfl rfl _ c.b (by omega) i).m ?_;rintro e C ⟨rfl,l,f⟩;have g:=c.a.K f (by grind);have:=g.cells.2.2.1;have j:=aD g l (bg c.c f);clear g l f
 go_wp2_with fail
 refine(AR b _ 2 x.loc a 3 dI rfl rfl rfl rfl rfl _ j.b (by show r.many+1<24;omega) i).m ?_;rintro e y ⟨rfl,f,l⟩;have m:=aD (j.a.K l (by grind)) f (bg j.C l);have⟨M,n⟩:=eX (r.many+1);have s:(iZ r 1 x.loc bZ 3 0).many=M:=n.s;rw[s];have⟨t,o⟩:=eX (iZ (iZ r 1 x.loc bZ 3 0) 2 x.loc a 3 dI);rw[<-o]at f m;have z:M<24:=by omega
 have:(0:Int)<=(M:Int):=by omega
 have:(M:Int)<24:=by omega
 have:(0:Int)<=(r.many:Int):=by omega
 have g:=aD n o z;have A:=H f;clear l n o s f;go_wp2;go_still_tail 7,(by kernel_rfl)
 change wpList _ _ _ _ _ y.drew;refine wpList_store_one rfl 195 (.tmp 30) (.tmp 27) rfl b (235+M) 259 200 (R t) _ rfl rfl A.y.drew (by omega) te rfl ?_;intro s n f;have l:=m.a.K (qX f) (by grind);have o:=aD l (bz.nT n (U0 t M g.C (iM r.many))) (bg m.C (qX f));have:=l.cells.2.1;clear l n f;go_wp2;go_still_tail 6,(by kernel_rfl)
 change wpList _ _ _ _ _ s.drew
 go_wp2_with fail
 refine(Bw b _ x.dst bZ (iM r.many) _ o.b.drew c.e.dst).m ?_;rintro e E ⟨rfl,f,l⟩;have n:=aA f (bg o.C (qX l));clear f l;go_wp2;go_ret;refine⟨by rw[g.a];rfl,?_,n.B⟩;have h:=n.a;rw[g.b,g.a]at h;exact h
end
section
attribute [local go_sem] CF Hw E4 DW Fz AL AK BN Bk y7 zU BP zR zQ zC rj EM QS kf uq Ba
def uA:(prog.info? 3).map (·.size)=some 1:=by kernel_rfl
def je{a b}{z}(c:z=Y b)(h:a≠b):(Y a==z)=false:=by subst c;rw[kf];simp[h]
def oo{a b}{z}(c:z=Y b)(h:a=b):(Y a==z)=true:=by grind
def Vn:vz 247 yp:=by
 intro b r x c w f m t n;have g:w≠b:=fun e=>by have:=f.lt;omega
 have a:=bM (eO.new w x) (f.alloc (.cells (aV x) 36)) (rn w (.cells (aV x) 36) b) g m;go_enter func247,ntmps247
 go_wp2_with fail
 refine(AR b r 1 x.loc c x.mode 0 rfl rfl rfl rfl rfl _ a.b (by omega) n).m ?_;rintro e o ⟨rfl,p,h⟩;have i:=a.a.K h (by intro e;injection e with e;exact g e);have j:=aD i p (bg a.c h);have:=i.cells
 go_wp2_with fail
 have:(0:Int)<=(r.many:Int):=by omega
 go_still_tail 6,(by kernel_rfl)
 change wpList _ _ _ _ _ o.drew
 go_wp2_with fail
 refine(Bw b _ x.dst c (iM r.many) _ j.b.drew a.E.dst).m ?_;rintro e u ⟨rfl,q,s⟩;have l:=aA q (bg j.C (qX s));go_wp2
 go_end0
 exact⟨rfl,l.a,l.B⟩
def agT:vz 248 (fun r x _=>yj r x):=by
 intro b r x q w g n s o;have h:w≠b:=fun e=>by have:=g.lt;omega
 have a:=bM (eO.new w x) (g.alloc (.cells (aV x) 36)) (rn w (.cells (aV x) 36) b) h n;go_enter func248,ntmps248
 go_wp2_with fail
 refine(iC b r x.a _ a.b a.E.a).st fun t c=>?_;have i:=a.a.Z c a.a.lt;have:=i.cells;have f:=aD i ((a.b).Z c (a.b).lt) (bg a.c (dD c _))
 go_wp2_with fail
 refine(AR b r 2 x.loc (bU r x.a) x.mode (cW r x.a) rfl rfl rfl rfl rfl _ f.b (by omega) o).m ?_;rintro e u ⟨rfl,p,j⟩;have l:=f.a.K j (by intro e;injection e with e;exact h e);have m:=aD l p (bg f.C j);have:=l.cells;go_wp2
 go_end0
 exact⟨rfl,m.b,m.C⟩
def adJ:vz 253 (fun r x _=>xg r x):=by
 intro b r x n w c j o l;have f:w≠b:=fun e=>by have:=c.lt;omega
 have a:=bM (eO.new w x) (c.alloc (.cells (aV x) 36)) (rn w (.cells (aV x) 36) b) f j;go_enter func253,ntmps253
 go_wp2_with fail
 refine(AR b r 3 0 0 x.mode 0 rfl rfl rfl rfl rfl _ a.b (by omega) l).m ?_;rintro e p ⟨rfl,m,g⟩;have h:=a.a.K g (by intro e;injection e with e;exact f e);have i:=aD h m (bg a.c g);have:=h.cells;go_wp2
 go_end0
 exact⟨rfl,i.b,i.C⟩
def agm:vz 249 (fun r x _=>wW r x):=by
 intro b r x E w q c F H;have v:w≠b:=fun e=>by have:=q.lt;omega
 have a:=bM (eO.new w x) (q.alloc (.cells (aV x) 36)) (rn w (.cells (aV x) 36) b) v c;clear c;by_cases o:x.fn=1
 .have e1:=oo (z:=1) rfl o;have y:bU r x.a+bU r x.b=nL x.fn (bU r x.a) (bU r x.b):=by rw[o];rfl
  clear o;go_enter func249,ntmps249
  go_wp2_with fail
  refine(iC b r x.a _ a.b a.E.a).st fun s f=>?_;have h:=a.a.Z f a.a.lt;have A:=h.cells;have c:=aD h ((a.b).Z f (a.b).lt) (bg a.c (dD f _));clear h f
  go_wp2_with fail
  refine(iC b r x.b _ c.b a.E.b).st fun t g=>?_;have i:=c.a.Z g c.a.lt;have C:=i.cells;have j:=aD i ((c.b).Z g (c.b).lt) (bg c.C (dD g _));clear i g
  go_wp2_with fail
  refine(Bw b _ x.dst (nL x.fn (bU r x.a) (bU r x.b)) (cW r x.a|||cW r x.b) _ j.b a.E.dst).m ?_;rintro e u ⟨rfl,l,m⟩;have n:=aA l (bg j.C m);clear l m;go_wp2
  go_end0
  exact⟨rfl,n.a,n.B⟩
 have:=je (z:=1) rfl o;by_cases p:x.fn=2
 .have e2:=oo (z:=2) rfl p;have y:bU r x.a-bU r x.b=nL x.fn (bU r x.a) (bU r x.b):=by rw[p];rfl
  clear p;go_enter func249,ntmps249
  go_wp2_with fail
  refine(iC b r x.a _ a.b a.E.a).st fun s f=>?_;have h:=a.a.Z f a.a.lt;have A:=h.cells;have c:=aD h ((a.b).Z f (a.b).lt) (bg a.c (dD f _));clear h f
  go_wp2_with fail
  refine(iC b r x.b _ c.b a.E.b).st fun t g=>?_;have i:=c.a.Z g c.a.lt;have C:=i.cells;have j:=aD i ((c.b).Z g (c.b).lt) (bg c.C (dD g _));clear i g
  go_wp2_with fail
  refine(Bw b _ x.dst (nL x.fn (bU r x.a) (bU r x.b)) (cW r x.a|||cW r x.b) _ j.b a.E.dst).m ?_;rintro e u ⟨rfl,l,m⟩;have n:=aA l (bg j.C m);clear l m;go_wp2
  go_end0
  exact⟨rfl,n.a,n.B⟩
 have:=je (z:=2) rfl p;have:bU r x.a^^^bU r x.b=nL x.fn (bU r x.a) (bU r x.b):=by
  unfold nL;rw[O o,O p]
 go_enter func249,ntmps249
 go_wp2_with fail
 refine(iC b r x.a _ a.b a.E.a).st fun s f=>?_;have h:=a.a.Z f a.a.lt;have:=h.cells;have c:=aD h ((a.b).Z f (a.b).lt) (bg a.c (dD f _));clear h f
 go_wp2_with fail
 refine(iC b r x.b _ c.b a.E.b).st fun t g=>?_;have i:=c.a.Z g c.a.lt;have:=i.cells;have j:=aD i ((c.b).Z g (c.b).lt) (bg c.C (dD g _));clear i g
 go_wp2_with fail
 refine(Bw b _ x.dst (nL x.fn (bU r x.a) (bU r x.b)) (cW r x.a|||cW r x.b) _ j.b a.E.dst).m ?_;rintro e u ⟨rfl,l,m⟩;have n:=aA l (bg j.C m);clear l m;go_wp2
 go_end0
 exact⟨rfl,n.a,n.B⟩
def UH:vz 250 zP:=by
 intro b r x j w f l m n;have o:w≠b:=fun e=>by have:=f.lt;omega
 have a:=bM (eO.new w x) (f.alloc (.cells (aV x) 36)) (rn w (.cells (aV x) 36) b) o l;go_enter func250,ntmps250
 go_wp2_with fail
 refine(iC b r x.a _ a.b a.E.a).st fun s c=>?_;have g:=a.a.Z c a.a.lt;have:=g.cells;have h:=aD g ((a.b).Z c (a.b).lt) (bg a.c (dD c _))
 go_wp2_with fail
 refine(MZ b r x j (bU r x.a) (cW r x.a) _ h.b a.E m n).m ?_;rintro e t ⟨rfl,p,q⟩;have i:=aA p (bg h.C q);go_wp2
 go_end0
 exact⟨rfl,i.a,i.B⟩
def afW:vz 251 xN:=by
 intro b r x f w n t u v;have y:w≠b:=fun e=>by have:=n.lt;omega
 have a:=bM (eO.new w x) (n.alloc (.cells (aV x) 36)) (rn w (.cells (aV x) 36) b) y t;go_enter func251,ntmps251
 go_wp2_with fail
 refine(iC b r x.a _ a.b a.E.a).st fun F j=>?_;have o:=a.a.Z j a.a.lt;have:=o.cells;have p:=aD o ((a.b).Z j (a.b).lt) (bg a.c (dD j _))
 go_wp2_with fail
 refine(MZ b r x f (f+bU r x.a) (cW r x.a) _ p.b a.E u v).m ?_;rintro e z ⟨rfl,c,A⟩;have q:=aA c (bg p.C A);have⟨M,l⟩:=eX (r.many+1);rw[<-l];have⟨g,m⟩:=eX (nC r x f (f+bU r x.a) (cW r x.a));have c:=q.a;rw[<-m]at c;have s:M<24:=by omega
 have C:=c.C (187+M) (by omega);have E:=c.C (235+M) (by omega);rw[JE _ _ s]at C;rw[E6]at E;have:(0:Int)<=(M:Int):=by omega
 have:(M:Int)<24:=by omega
 have i:=aY l m s c;clear l m c;go_wp2;go_still_tail 16,(by kernel_rfl)
 change wpList _ _ _ _ _ z.drew;refine wpList_store_one rfl 195 (.tmp 39) (.tmp 36) rfl b (187+M) 259 200 (R g) _ rfl rfl i.D.drew (by omega) te rfl ?_;intro H l m;have c:=aA (bz.nT l (Qu g M i.c ((g.ev M).data|||(g.ev M).ff))) (bg q.B (qX m));go_wp2
 go_end0
 refine⟨rfl,?_,c.B⟩;have h:=c.a;rw[i.b,i.a]at h;exact h
def UD:vz 252 qk:=by
 intro b r x i w C c J E;have F:w≠b:=fun e=>by have:=C.lt;omega
 have a:=bM (eO.new w x) (C.alloc (.cells (aV x) 36)) (rn w (.cells (aV x) 36) b) F c;clear c;by_cases m:i=bU r x.a
 .have e1:(i !=bU r x.a)=false:=by simp[m]
  have v:=H m;clear m;go_enter func252,ntmps252
  go_wp2_with fail
  refine(iC b r x.a _ a.b a.E.a).st fun L f=>?_;have j:=a.a.Z f a.a.lt;have T:=j.cells;have c:=aD j ((a.b).Z f (a.b).lt) (bg a.c (dD f _));clear j f
  go_wp2_with fail
  refine(iC b r x.b _ c.b a.E.b).st fun N g=>?_;have l:=c.a.Z g c.a.lt;have W:=l.cells;have n:=aD l ((c.b).Z g (c.b).lt) (bg c.C (dD g _));clear l g
  go_wp2_with fail
  refine(MZ b r x i (bU r x.b) (cW r x.b) _ n.b a.E J E).m ?_;rintro e y ⟨rfl,p,o⟩;have q:=aA p (bg n.C o);clear p o;have⟨M,z⟩:=eX (r.many+1);rw[<-z];have⟨t,A⟩:=eX (nC r x i (bU r x.b) (cW r x.b));have s:=q.a;rw[<-A]at s;have I:M<24:=by omega
  have P:=s.C (211+M) (by omega);have Q:=s.C (235+M) (by omega);rw[I5 _ _ I]at P;rw[E6]at Q;have:(0:Int)<=(M:Int):=by omega
  have:(M:Int)<24:=by omega
  have u:=aY z A I s;clear z A s;go_wp2;go_still_tail 18,(by kernel_rfl)
  change wpList _ _ _ _ _ y.drew;refine wpList_store_one rfl 195 (.tmp 64) (.tmp 61) rfl b (211+M) 259 200 (R t) _ rfl rfl u.D.drew (by omega) te rfl ?_;intro X s z;have A:=aA (bz.nT s (M6 t M u.c ((t.ev M).A|||((t.ev M).ff|||cW r x.a)))) (bg q.B (qX z));clear s z;go_wp2
  go_end0
  refine⟨rfl,?_,A.B⟩;have h:=A.a;rw[u.b,u.a]at h;unfold qk;rw[aq v.y];exact h
 have:(i !=bU r x.a)=true:=by simp[m]
 have v:=H m;clear m;go_enter func252,ntmps252
 go_wp2_with fail
 refine(iC b r x.a _ a.b a.E.a).st fun L f=>?_;have j:=a.a.Z f a.a.lt;have:=j.cells;have c:=aD j ((a.b).Z f (a.b).lt) (bg a.c (dD f _));clear j f
 go_wp2_with fail
 refine(iC b r x.b _ c.b a.E.b).st fun N g=>?_;have l:=c.a.Z g c.a.lt;have:=l.cells;have n:=aD l ((c.b).Z g (c.b).lt) (bg c.C (dD g _));clear l g
 go_wp2_with fail
 refine(AR b r 1 x.loc i 3 0 rfl rfl rfl rfl rfl _ n.b (by omega) E).m ?_;rintro e y ⟨rfl,p,o⟩;have f:=n.a.K o (by intro e;injection e with e;exact F e);have q:=aD f p (bg n.C o);have:=f.cells;clear f p o;have:(0:Int)<=(r.many:Int):=by omega
 go_wp2;go_still_tail 6,(by kernel_rfl)
 change wpList _ _ _ _ _ y.drew
 go_wp2_with fail
 refine(Bw b _ x.dst i (iM r.many) _ q.b.drew a.E.dst).m ?_;rintro e l ⟨rfl,f,g⟩;have j:=aA f (bg q.C (qX g));clear f g;go_wp2;refine bK (ju rfl _ _ _) rfl ?_;refine⟨rfl,?_,j.B⟩;unfold qk;rw[O v.y];exact j.a
def Yf:vz 254 (fun r x _=>pj r x):=by
 intro b r x ad w X c ae af;have I:w≠b:=fun e=>by have:=X.lt;omega
 have a:=bM (eO.new w x) (X.alloc (.cells (aV x) 36)) (rn w (.cells (aV x) 36) b) I c;clear c;obtain⟨j,A⟩:∃j,qE x.fn (bU r x.a) (bU r x.b)=j:=⟨_,rfl⟩
 have:Y x.skip=((x.skip:Nat):Int):=rfl;have c:=x.skip.toNat_lt;have:IntKind.i64.wrap ((x.skip:Nat):Int)=((x.skip:Nat):Int):=by rw[nk];omega
 have:IntKind.i64.wrap ((r.pc:Int)+((x.skip:Nat):Int))=((r.pc+x.skip:Nat):Int):=by rw[nk];omega
 clear c;by_cases J:x.fn=4
 .have e1:=oo (z:=4) rfl J;have ab:(bU r x.a==bU r x.b)=j:=by rw[<-A,J];rfl
  clear J;have C:=H A;clear A;cases j
  .go_enter func254,ntmps254
   go_wp2_with fail
   refine(iC b r x.a _ a.b a.E.a).st fun L f=>?_;have n:=a.a.Z f a.a.lt;have P:=n.cells;have c:=aD n ((a.b).Z f (a.b).lt) (bg a.c (dD f _));clear n f
   go_wp2_with fail
   refine(iC b r x.b _ c.b a.E.b).st fun M g=>?_;have o:=c.a.Z g c.a.lt;have i:=(c.b).Z g (c.b).lt;have Q:=o.cells;have s:=aD o i (bg c.C (dD g _));have u:=i.C 17 (dr rfl);rw[wV]at u;have v:=H i;clear o i g
   go_wp2_with (refine wpList_store_one rfl 195 (.tmp 34) (.tmp 32) rfl b 17 259 200 (R r) _ rfl rfl v.y (by omega) te rfl ?_;intro y m p;have l:=bz.nT m (yM r (r.control|||(cW r x.a|||cW r x.b)));have q:=s.a.K p (by intro e;injection e with e;exact I e);have T:=q.cells;have W:=l.C 0 (dr rfl);have f0:=l.free 0;have t:=aD q l (bg s.C p);clear q l m p)
   go_end0
   refine⟨rfl,?_,t.C⟩;have h:=t.b;unfold pj;rw[C.y,O (by simp)];exact h
  go_enter func254,ntmps254
  go_wp2_with fail
  refine(iC b r x.a _ a.b a.E.a).st fun L f=>?_;have n:=a.a.Z f a.a.lt;have P:=n.cells;have c:=aD n ((a.b).Z f (a.b).lt) (bg a.c (dD f _));clear n f
  go_wp2_with fail
  refine(iC b r x.b _ c.b a.E.b).st fun M g=>?_;have o:=c.a.Z g c.a.lt;have i:=(c.b).Z g (c.b).lt;have Q:=o.cells;have s:=aD o i (bg c.C (dD g _));have u:=i.C 17 (dr rfl);rw[wV]at u;have v:=H i;clear o i g
  go_wp2_with (refine wpList_store_one rfl 195 (.tmp 34) (.tmp 32) rfl b 17 259 200 (R r) _ rfl rfl v.y (by omega) te rfl ?_;intro y m p;have l:=bz.nT m (yM r (r.control|||(cW r x.a|||cW r x.b)));have q:=s.a.K p (by intro e;injection e with e;exact I e);have T:=q.cells;have W:y.cell? b=some (.int .i64 r.pc):=l.C 0 (dr rfl);have f0:=l.free 0;have t:=aD q l (bg s.C p);clear q l m p)
  go_still_tail 10,(by kernel_rfl)
  change wpList _ _ _ _ _ y.drew;refine wpList_store_one rfl 3 (.tmp 60) (.tmp 58) rfl b 0 259 200 (R {r with control:=r.control|||(cW r x.a|||cW r x.b)}) _ rfl rfl t.b.drew (by omega) uA rfl ?_;intro aa m E;have F:=aA (bz.nT m (Fk _ (r.pc+x.skip))) (bg t.C (qX E));clear m E;go_wp2
  go_end0
  refine⟨rfl,?_,F.B⟩;have h:=F.a;unfold pj;rw[C.y,aq rfl];exact h
 have:=je (z:=4) rfl J;by_cases N:x.fn=5
 .have e2:=oo (z:=5) rfl N;have ab:(bU r x.a !=bU r x.b)=j:=by rw[<-A,N];rfl
  clear N;have C:=H A;clear A;cases j
  .go_enter func254,ntmps254
   go_wp2_with fail
   refine(iC b r x.a _ a.b a.E.a).st fun L f=>?_;have n:=a.a.Z f a.a.lt;have P:=n.cells;have c:=aD n ((a.b).Z f (a.b).lt) (bg a.c (dD f _));clear n f
   go_wp2_with fail
   refine(iC b r x.b _ c.b a.E.b).st fun M g=>?_;have o:=c.a.Z g c.a.lt;have i:=(c.b).Z g (c.b).lt;have Q:=o.cells;have s:=aD o i (bg c.C (dD g _));have u:=i.C 17 (dr rfl);rw[wV]at u;have v:=H i;clear o i g
   go_wp2_with (refine wpList_store_one rfl 195 (.tmp 34) (.tmp 32) rfl b 17 259 200 (R r) _ rfl rfl v.y (by omega) te rfl ?_;intro y m p;have l:=bz.nT m (yM r (r.control|||(cW r x.a|||cW r x.b)));have q:=s.a.K p (by intro e;injection e with e;exact I e);have T:=q.cells;have W:=l.C 0 (dr rfl);have f0:=l.free 0;have t:=aD q l (bg s.C p);clear q l m p)
   go_end0
   refine⟨rfl,?_,t.C⟩;have h:=t.b;unfold pj;rw[C.y,O (by simp)];exact h
  go_enter func254,ntmps254
  go_wp2_with fail
  refine(iC b r x.a _ a.b a.E.a).st fun L f=>?_;have n:=a.a.Z f a.a.lt;have P:=n.cells;have c:=aD n ((a.b).Z f (a.b).lt) (bg a.c (dD f _));clear n f
  go_wp2_with fail
  refine(iC b r x.b _ c.b a.E.b).st fun M g=>?_;have o:=c.a.Z g c.a.lt;have i:=(c.b).Z g (c.b).lt;have Q:=o.cells;have s:=aD o i (bg c.C (dD g _));have u:=i.C 17 (dr rfl);rw[wV]at u;have v:=H i;clear o i g
  go_wp2_with (refine wpList_store_one rfl 195 (.tmp 34) (.tmp 32) rfl b 17 259 200 (R r) _ rfl rfl v.y (by omega) te rfl ?_;intro y m p;have l:=bz.nT m (yM r (r.control|||(cW r x.a|||cW r x.b)));have q:=s.a.K p (by intro e;injection e with e;exact I e);have T:=q.cells;have W:y.cell? b=some (.int .i64 r.pc):=l.C 0 (dr rfl);have f0:=l.free 0;have t:=aD q l (bg s.C p);clear q l m p)
  go_still_tail 10,(by kernel_rfl)
  change wpList _ _ _ _ _ y.drew;refine wpList_store_one rfl 3 (.tmp 60) (.tmp 58) rfl b 0 259 200 (R {r with control:=r.control|||(cW r x.a|||cW r x.b)}) _ rfl rfl t.b.drew (by omega) uA rfl ?_;intro aa m E;have F:=aA (bz.nT m (Fk _ (r.pc+x.skip))) (bg t.C (qX E));clear m E;go_wp2
  go_end0
  refine⟨rfl,?_,F.B⟩;have h:=F.a;unfold pj;rw[C.y,aq rfl];exact h
 have:=je (z:=5) rfl N;have:decide (bU r x.a<bU r x.b)=j:=by rw[<-A];unfold qE;rw[O J,O N]
 have C:=H A;clear A;cases j
 .go_enter func254,ntmps254
  go_wp2_with fail
  refine(iC b r x.a _ a.b a.E.a).st fun L f=>?_;have n:=a.a.Z f a.a.lt;have P:=n.cells;have c:=aD n ((a.b).Z f (a.b).lt) (bg a.c (dD f _));clear n f
  go_wp2_with fail
  refine(iC b r x.b _ c.b a.E.b).st fun M g=>?_;have o:=c.a.Z g c.a.lt;have i:=(c.b).Z g (c.b).lt;have Q:=o.cells;have s:=aD o i (bg c.C (dD g _));have u:=i.C 17 (dr rfl);rw[wV]at u;have v:=H i;clear o i g
  go_wp2_with (refine wpList_store_one rfl 195 (.tmp 34) (.tmp 32) rfl b 17 259 200 (R r) _ rfl rfl v.y (by omega) te rfl ?_;intro y m p;have l:=bz.nT m (yM r (r.control|||(cW r x.a|||cW r x.b)));have q:=s.a.K p (by intro e;injection e with e;exact I e);have T:=q.cells;have W:=l.C 0 (dr rfl);have f0:=l.free 0;have t:=aD q l (bg s.C p);clear q l m p)
  go_end0
  refine⟨rfl,?_,t.C⟩;have h:=t.b;unfold pj;rw[C.y,O (by simp)];exact h
 go_enter func254,ntmps254
 go_wp2_with fail
 refine(iC b r x.a _ a.b a.E.a).st fun L f=>?_;have n:=a.a.Z f a.a.lt;have:=n.cells;have c:=aD n ((a.b).Z f (a.b).lt) (bg a.c (dD f _));clear n f
 go_wp2_with fail
 refine(iC b r x.b _ c.b a.E.b).st fun M g=>?_;have o:=c.a.Z g c.a.lt;have i:=(c.b).Z g (c.b).lt;have:=o.cells;have s:=aD o i (bg c.C (dD g _));have u:=i.C 17 (dr rfl);rw[wV]at u;have v:=H i;clear o i g
 go_wp2_with (refine wpList_store_one rfl 195 (.tmp 34) (.tmp 32) rfl b 17 259 200 (R r) _ rfl rfl v.y (by omega) te rfl ?_;intro y m p;have l:=bz.nT m (yM r (r.control|||(cW r x.a|||cW r x.b)));have q:=s.a.K p (by intro e;injection e with e;exact I e);have:=q.cells;have:y.cell? b=some (.int .i64 r.pc):=l.C 0 (dr rfl);have:=l.free 0;have t:=aD q l (bg s.C p);clear q l m p)
 go_still_tail 10,(by kernel_rfl)
 change wpList _ _ _ _ _ y.drew;refine wpList_store_one rfl 3 (.tmp 60) (.tmp 58) rfl b 0 259 200 (R {r with control:=r.control|||(cW r x.a|||cW r x.b)}) _ rfl rfl t.b.drew (by omega) uA rfl ?_;intro aa m E;have F:=aA (bz.nT m (Fk _ (r.pc+x.skip))) (bg t.C (qX E));clear m E;go_wp2
 go_end0
 refine⟨rfl,?_,F.B⟩;have h:=F.a;unfold pj;rw[C.y,aq rfl];exact h
end
def NE{P:Program}{ops}{w0}{Q}{a}{rest}{o}(e:Region.wanted o (yielded ops a.tmps)=true)(ty)(x)(f:o.op= .load ty x)
 (b off m n)(t)(g)(j:a.eval x= .pointer (some ⟨b,off,none⟩))(c:aj w0 b t n g)(l:off+m<=n)(d:TypeDesc)(p:P.underlying ty=d)(q:d.isRow=true)(s:(P.info? ty).map (·.size)=m)
 (h:Bl.iQ P ops w0 Q rest (a.put o.dst (J m fun i=>g (off+i)))):Bl.iQ P ops w0 Q (o::rest) a:=
 Bl.dK e (fun W r=>by
   unfold execOp;simp only[f,j,Instr.loadAt,Instr.sureAddr,eD,eZ,eY,(qu (P:=P) W b off ty _ d ((c.Z r c.lt).range off m l) p q (by grind))];rfl) h
def tM:Array Value:=#[.nilFunc,.func (.func 247) #[] #[],.func (.func 248) #[] #[],.func (.func 249) #[] #[],.func (.func 250) #[] #[],.func (.func 251) #[] #[],.func (.func 252) #[] #[],.func (.func 253) #[] #[],.func (.func 254) #[] #[]]
def mT{P:Program}{fn}{p:Tmp}{ty}(h:fn.results=#[.cell p ty])(tmps){w}{b n}{t}{g}(a:aj w b t n g)(d:TypeDesc)
 (c:tmps.getD p undef= .pointer b)(e:P.underlying ty=d)(f:d.isRow=true)(i:(P.info? ty).map (·.size)=n):(results fn tmps).run P w= .ok (J n g) w:=
 qC h tmps w b t (J n g) (0,0) d c a e (by grind) (by simp_all)
def ae6:prog.underlying 329=some (.array 9 328):=by kernel_rfl
def Tu:(prog.info? 329).map (·.size)=some 9:=by kernel_rfl
def mr:prog.underlying 36=some (.struct (prog.fieldsOf 36)):=by kernel_rfl
def kz:(prog.info? 36).map (·.size)=some 10:=by kernel_rfl
def Xx:tM=J 9 fun i=>tM[i]!:=uR tM
def aaP(w):Calls prog 236 #[] w (Rs tM w):=by
 have b:aj (w.alloc (.cells #[.nilFunc,.nilFunc,.nilFunc,.nilFunc,.nilFunc,.nilFunc,.nilFunc,.nilFunc,.nilFunc] 329)) w 329 9 (fun _=> .nilFunc):=aj.dq _ _ _ _ _ rfl;have a:=aA b (ba w (.cells #[.nilFunc,.nilFunc,.nilFunc,.nilFunc,.nilFunc,.nilFunc,.nilFunc,.nilFunc,.nilFunc] 329));go_enter func236,ntmps236
 go_wp2_with (refine eP rfl 329 (.tmp 0) (.tmp 1) rfl w 0 9 9 _ (fun _=> .nilFunc) (fun i=>tM[i]!) rfl rfl a.a (dr rfl) Tu (fun i c=>by obtain _|_|_|_|_|_|_|_|_|i:=i<;>first|rfl|omega) ?_;intro h f g)
 have h:=f.congr fun i c=>by unfold bm;rw[aq ⟨by omega,by omega⟩,ez]
 refine bK (mT rfl _ h _ rfl ae6 rfl Tu) rfl ?_;exact⟨by rw[<-Xx],a.B.b g a.B.size (fun k e=>by cases e;omega)⟩
def afH(k:Nat)(a:k<9)(w):(Instr.index 329 tM (.int .u8 k)).run prog w= .ok (tM[k]!) w:=by
 obtain _|_|_|_|_|_|_|_|_|i:=k
 all_goals first|(exfalso;omega)|kernel_rfl
def yO(x):J 10 (fun i=>(aV x)[i]!)=aV x:=rfl
def eO.r{w}{c}{x}(h:eO w c x):aj w c 36 10 (fun i=>(aV x)[i]!):=h
def aaG(x)(l:1<=x.op.toNat)(m:x.op.toNat<=8):∃f,tM[x.op.toNat]! = .func (.func f) #[] #[]/\(∀args w,(callFunc f args).run prog w= .ok (.enter f args) w)/\∀(b:Nat)(r:aK)(a:UInt8)(w:World),bz w b r->ol x->r.many+2<=24->r.pc<256->
 Calls prog f #[.pointer (b:Nat),.agg (aV x),.int .u8 (Y a)] w fun e j=>e= .returned (.tuple #[])/\bz j b (eF r x a)/\w.grownBy j (some b):=by
 unfold eF;have⟨k,n⟩:=eX x.op.toNat;rw[<-n]at l m⊢;obtain _|_|_|_|_|_|_|_|_|k:=k
 .omega
 .exact⟨_,rfl,fun args w=>by kernel_rfl,fun b r a w c g h i=>Vn b r x a w c g h i⟩
 .exact⟨_,rfl,fun args w=>by kernel_rfl,fun b r a w c g h i=>agT b r x a w c g h i⟩
 .exact⟨_,rfl,fun args w=>by kernel_rfl,fun b r a w c g h i=>agm b r x a w c g h i⟩
 .exact⟨_,rfl,fun args w=>by kernel_rfl,fun b r a w c g h i=>UH b r x a w c g h i⟩
 .exact⟨_,rfl,fun args w=>by kernel_rfl,fun b r a w c g h i=>afW b r x a w c g h i⟩
 .exact⟨_,rfl,fun args w=>by kernel_rfl,fun b r a w c g h i=>UD b r x a w c g h i⟩
 .exact⟨_,rfl,fun args w=>by kernel_rfl,fun b r a w c g h i=>adJ b r x a w c g h i⟩
 .exact⟨_,rfl,fun args w=>by kernel_rfl,fun b r a w c g h i=>Yf b r x a w c g h i⟩
 omega
def afz(r)(x)(val):(eF r x val).pc<=r.pc+x.skip:=by
 unfold eF;split
 all_goals first|(show r.pc<=_;omega)|skip
 .unfold qk;split<;>(show r.pc<=_;omega)
 unfold pj
 grind
def SZ(b:Nat)(r:aK)(x:Ins)(c:UInt8)(w:World)(g:bz w b r)(h:ol x)(s:1<=x.op.toNat)(t:x.op.toNat<=8)(u:r.many+2<=24)(y:r.pc<256):
 Calls prog 216 #[.pointer (b:Nat),.agg (aV x),.int .u8 (Y c)] w fun e j=>e= .returned (.tuple #[])/\bz j b (bw r x c)/\w.grownBy j (some b):=by
 have l:=eO.new w x;have m:=g.alloc (.cells (aV x) 36);have n:=rn w (.cells (aV x) 36) b;have:w.1.size≠b:=fun e=>by have:=g.lt;omega
 have⟨f,p,z,q⟩:=aaG x s t;have a:=pn l m n q h (afH x.op.toNat (by omega)) p u y (afz r x c);clear l m n h q p g;go_enter func216,ntmps216;go_wp2;refine Bl.j2 7 (by kernel_rfl) (by kernel_rfl) ?_;simp only[st1];refine Bl.mZ 236 #[] rfl (fun W=>by simp[execOp,go_sem]) (fun W g=>aaP W) ?_;simp only[o];refine Bl.dK (v:= .pointer w) rfl (fun W g=>by simp[execOp,go_sem]) ?_;simp only[o];refine Bl.dK (v:= .int .u8 (x.op.toNat:Nat)) rfl (fun W g=>by have h:=(a.a.Z g a.a.lt).cells.1;simp[execOp,go_sem,h];rfl) ?_;simp only[o];refine Bl.dK (v:=tM[x.op.toNat]!) rfl (fun W g=>by have h:=a.f W;simp only[execOp,go_sem];simp[h]) ?_;simp only[o];refine Bl.dK (v:= .pointer (b:Nat)) rfl (fun W g=>by simp[execOp,go_sem]) ?_;simp only[o];refine NE rfl 36 (.tmp 4) rfl w.1.size 0 10 10 36 (fun i=>(aV x)[i]!) rfl a.a.r (dr rfl) _ mr rfl kz ?_;simp only[Act.put,lX,mm,lP,cK,yO];refine Bl.dK (v:= .int .u8 (Y c)) rfl (fun W g=>by simp[execOp,go_sem]) ?_;simp only[o];refine Bl.kr ?_;intro p g;have h:=aD (a.a.Z g a.a.lt) (a.b.Z g a.b.lt) (bg a.c (dD g (some b)));clear g;rw[a.g]
 go_wp2_with fail
 refine(a.d b r c _ h.b a.e a.h a.i).m ?_;rintro e l ⟨rfl,g,m⟩;have:l.cell? (b:Nat)=some (.int .i64 (eF r x c).pc):=g.C 0 (dr rfl);have:=g.free 0;have:IntKind.i64.wrap (((eF r x c).pc:Int)+1)=(((eF r x c).pc+1:Nat):Int):=by rw[nk];have:=a.J;have:=a.i;have:=x.skip.toNat_lt;omega
 have n:=aA (g.ZW ((eF r x c).pc+1)) (bg (bg h.C m) (mL l b 0 (.int .i64 ((eF r x c).pc+1:Nat))));clear g m;go_wp2
 go_end0
 exact⟨rfl,n.a,n.B⟩
def lq(x:Ins):Bool:=x.op==1||x.op==4||x.op==5||x.op==6
def jt(ins:List Ins):Nat->aK->aK×Bool
 |0,r=>(r,false)
 |n+1,r=>match ins[r.pc]? with
  |none=>(r,false)
  |some x=>if lq x then(r,true)else jt ins n (bw r x 0)
def fW(ins:List Ins)(r:aK):aK×Bool:=jt ins (ins.length-r.pc) r
structure lT(ins:List Ins):Prop where
 len:ins.length<=12
 ok:∀i x,ins[i]? =some x->ol x/\(x.op=8->i+1+x.skip.toNat<=ins.length)
structure kW(ins:List Ins)(r:aK):Prop where
 many:r.many<=2*r.pc
 pc:r.pc<=ins.length
def vh{ins}{r}{x:Ins}(v)(e:lT ins)(f:kW ins r)(b:ins[r.pc]? =x):kW ins (bw r x v)/\r.pc<(bw r x v).pc:=by
 have a:=(bL.1 b).1;have⟨c,m⟩:=e.ok _ _ b;have key:(eF r x v).many<=r.many+2/\r.pc<=(eF r x v).pc/\(eF r x v).pc+1<=ins:=by
  unfold eF;have g:=c.qf;have i:=c.iY;have j:x.op.toNat=8->x.op=8:=fun h=>tR.1 h;have⟨k,l⟩:=eX x.op.toNat;rw[<-l]at g i j⊢;obtain _|_|_|_|_|_|_|_|_|k:=k
  .omega
  .exact⟨by show r.many+1<=_;omega,av _,a⟩
  .exact⟨by show r.many+1<=_;omega,av _,a⟩
  .exact⟨by show r.many<=_;omega,av _,a⟩
  .exact⟨by show r.many+1+1<=_;omega,av _,a⟩
  .exact⟨by show r.many+1+1<=_;omega,av _,a⟩
  .simp only[];unfold qk;split
   .exact⟨by show r.many+1+1<=_;omega,av _,a⟩
   exact⟨by show r.many+1<=_;omega,av _,a⟩
  .exact⟨by show r.many+1<=_;omega,av _,a⟩
  .refine⟨by show r.many<=_;omega,?_,?_⟩
   .show r.pc<=if qE x.fn (bU r x.a) (bU r x.b)then r.pc+x.skip else r.pc
    grind
   show(if qE x.fn (bU r x.a) (bU r x.b)then r.pc+x.skip else r.pc)+1<=_
   grind
  omega
 have:=f.many;exact⟨⟨by show(eF r x v).many<=2*((eF r x v).pc+1);omega,key.2.2⟩,by show r.pc<(eF r x v).pc+1;omega⟩
def KR{ins}(b:lT ins):∀(n:Nat)(r:aK),kW ins r->ins-r.pc<=n->jt ins n r=jt ins (ins-r.pc) r
 |0,r,c,h=>by grind
 |n+1,r,c,h=>by
  cases a:ins[r.pc]? with
  |none=>
   have f:ins-r.pc=0:=by grind
   rw[f];unfold jt;rw[a]
  |some x=>
   have:=(bL.1 a).1;obtain⟨m,g⟩:∃m,ins-r.pc=m+1:=⟨ins-r.pc-1,by omega⟩
   rw[g];unfold jt;rw[a];simp only[];split
   .rfl
   have⟨e,i⟩:=vh 0 b c a;rw[KR b n _ e (by omega),KR b m _ e (by omega)]
def XZ{ins}(b:lT ins){r}(c:kW ins r){x:Ins}(a:ins[r.pc]? =x)(g:lq x=false):fW ins r=fW ins (bw r x 0):=by
 unfold fW;have:=(bL.1 a).1;have⟨e,h⟩:=vh 0 b c a;rw[<-KR b (ins-r.pc-1) _ e (by omega)];obtain⟨m,f⟩:∃m,ins-r.pc=m+1:=⟨ins-r.pc-1,by omega⟩
 rw[f,Ej];rw[jt,a]
 grind
def adf{ins}{r}{x:Ins}(a:ins[r.pc]? =x)(c:lq x=true):fW ins r=(r,true):=by
 unfold fW;have:=(bL.1 a).1;obtain⟨m,b⟩:∃m,ins-r.pc=m+1:=⟨ins-r.pc-1,by omega⟩
 rw[b,jt,a]
 grind
def N8{ins:List Ins}{r:aK}(h:ins<=r.pc):fW ins r=(r,false):=by
 unfold fW;have:ins-r.pc=0:=by omega
 rw[this,jt]
def jG(W:World)(A:Option Addr)(ins:List Ins):Prop:=
 0<ins.length->∃b a,A=some ⟨b,a,none⟩/\b<W.1.size/\∀i x,ins[i]? =some x->∀j,j<10->W.cell? ⟨b,a+i*10+j,none⟩=(aV x)[j]?
def jG.K{W W'}{A}{ins}{row}(h:jG W A ins)(f:W.grownBy W' row)(r:∀a,A=some a->0<ins.length->some a.block≠row):jG W' A ins:=by
 intro g;obtain⟨b,off,rfl,o,u⟩:=h g;refine⟨b,off,rfl,aW o f.size,fun i x w j y=>?_⟩;rw[f.cell_far ⟨b,off+i*10+j,none⟩ o (r ⟨b,off,none⟩ rfl g)]
 grind
def jG.Z{n}{W W'}{A}{ins}(h:jG W A ins)(f:Below n W W')(y:W<=n):jG W' A ins:=by
 intro g;obtain⟨b,off,rfl,o,r⟩:=h g;exact⟨b,off,rfl,aW o f.size,fun i x u j w=>(f.C (p:=⟨b,off+i*10+j,none⟩) (by grind)).t (r i x u j w)⟩
def BS{W:World}{b o}{x}(h:∀j,j<10->W.cell? ⟨b,o+j,none⟩=(aV x)[j]?):W.rangeAt b o (aV x).toList:=by
 intro j v a;have:j<10:=(bL.1 a).1
 grind
def adP(b)(r)(x)(val){z}(f:z=Y val)(w)(g:bz w b r)(a:ol x)(h:r.many+2<=24)(i:r.pc<256):
 Calls prog 216 #[.pointer b,(aV x),.int .u8 z] w fun e c=>e=(Value.tuple #[])/\bz c b (bw r x val)/\w.grownBy c (some b):=by
 subst f;exact SZ b r x val w g a a.qf a.iY h i
def LH(w:World)(b:Nat):Nat:=match w.cell? b with
 |some (.int _ n)=>n.toNat
 |_=>0
def O3{w}{b}{r}(h:bz w b r):LH w b=r.pc:=by
 unfold LH;rw[show w.cell? b=some (.int .i64 r.pc)from h.C 0 (dr rfl)];simp
def Vv{x}(h:lq x=true):x.op=1\/x.op=4\/x.op=5\/x.op=6:=by
 unfold lq at h
 grind
def R1(b:Nat)(r:aK)(A:Option Addr)(ins:List Ins)(N:Nat)(w:World)(h:bz w b r)(g:kW ins r)(c:lT ins)(f:jG w A ins)(i:∀a,A=some a->0<ins.length->some a.block≠some b):
 Calls prog 215 #[.pointer (b:Nat),.slice A ins.length N] w fun e s=>
  e= .returned (.bool (fW ins r).2)/\bz s b (fW ins r).1/\w.grownBy s (some b)/\kW ins (fW ins r).1:=by
 have:=c.len;have m:=aD c f i;have t:=aA h g;clear c f i h g;go_enter func215,ntmps215;go_wp2
 go_loopw [] (fun wr=>∃r':aK,kW ins r'/\bz wr b r'/\fW ins r'=fW ins r/\w.grownBy wr (some b)) (fun wr=>ins.length-LH wr b)
 case atStart=>exact⟨r,t.B,t.a,rfl,⟨rfl,rfl,rfl,av _,fun _ _ _=>rfl⟩⟩
 obtain⟨r',g,h,l,j⟩:=hrel;have:wr.cell? (b:Nat)=some (.int .i64 r'.pc):=h.C 0 (dr rfl);by_cases O:r'.pc<ins.length
 .obtain⟨x,n⟩:∃x,ins[r'.pc]? =some x:=⟨_,aI O⟩
  obtain⟨u,v,rfl,W,p⟩:=(m.b.K j m.C) (by omega)
  have o:=p _ _ n;have:wr.cell? ⟨u,v+r'.pc*10,none⟩=some (.int .u8 (Y x.op)):=o 0 (dr rfl);have X:(r'.pc:Int)<ins.length:=by omega
  have:(0:Int)<=r'.pc:=by omega
  have⟨q,y⟩:=m.a.ok _ _ n;by_cases i:lq x=true
  .have f:=adf n i;have c:=bM f l h j g;clear f l h j g p o q y;have P:=Vv i;clear i;obtain f|f|f|f:=P
   .have e1:=oo (z:=1) rfl f;clear f;go_wp2;go_ret;rw[<-c.b,c.a];exact⟨rfl,c.c,c.d,c.E⟩
   .have C:=je (a:=x.op) (b:=1) (z:=1) rfl (by rw[f];decide);have e1:=oo (z:=4) rfl f;clear f;go_wp2;go_ret;rw[<-c.b,c.a];exact⟨rfl,c.c,c.d,c.E⟩
   .have C:=je (a:=x.op) (b:=1) (z:=1) rfl (by rw[f];decide);have Q:=je (a:=x.op) (b:=4) (z:=4) rfl (by rw[f];decide);have e1:=oo (z:=5) rfl f;clear f;go_wp2;go_ret;rw[<-c.b,c.a];exact⟨rfl,c.c,c.d,c.E⟩
   have C:=je (a:=x.op) (b:=1) (z:=1) rfl (by rw[f];decide);have Q:=je (a:=x.op) (b:=4) (z:=4) rfl (by rw[f];decide);have aa:=je (a:=x.op) (b:=5) (z:=5) rfl (by rw[f];decide);have:=oo (z:=6) rfl f;clear f;go_wp2;go_ret;rw[<-c.b,c.a];exact⟨rfl,c.c,c.d,c.E⟩
  have i:lq x=false:=by simpa using i
  have f:=XZ m.a g n i;have⟨E,R⟩:=vh 0 m.a g n;have T:r'.many+2<=24:=by have:=g.many;omega
  have c:=dH (f.s.t l) E h j R q T;have F:=BS o;unfold lq at i;simp only[Bool.or_eq_false_iff]at i;obtain⟨⟨⟨I,J⟩,L⟩,M⟩:=i;have:=je (z:=1) rfl (EL I);have:=je (z:=4) rfl (EL J);have:=je (z:=5) rfl (EL L);have:=je (z:=6) rfl (EL M);clear f l E h j g p o q y I J L M;have q:=H F;clear F
  go_wp2_with (refine iI rfl 36 (.tmp 31) rfl u (v+r'.pc*10) rfl (aV x).toList _ q.y mr rfl kz ?_)
  refine(adP b r' x 0 rfl wr c.c c.f c.G (by omega)).m ?_;rintro e y ⟨rfl,o,p⟩;have f:=aA o p;clear o p;go_wp2
  go_roundw
  case rel=>exact⟨_,c.b,f.a,c.a,bg c.d f.B⟩
  rw[O3 f.a,O3 c.c];have:=c.e;omega
 have o:=N8 (ins:=ins) (r:=r') (by omega);have:¬(r'.pc:Int)<ins.length:=by omega
 have c:=bM o l h j g;clear o l h j g;go_wp2;go_ret;rw[<-c.b,c.a];exact⟨rfl,c.c,c.d,c.E⟩
def wide(s:BitVec 32):BitVec 64:=s.setWidth 64
def Cz(s):(wide s).toNat=s.toNat:=by unfold wide;rw[BitVec.toNat_setWidth];have:=s.isLt;omega
def Ll{s}:wide s=0↔s=0:=by
 constructor
 .intro h;apply sA;rw[<-Cz,h];rfl
 rintro rfl;rfl
def Kf(s)(i):(wide s).getLsbD i=s.getLsbD i:=by rw[<-xi,<-xi,Cz]
def jE(s:BitVec 32):List Nat:=Bs.cZ (wide s)
def nw(s:BitVec 32):Nat:=Bs.low (wide s)
def vZ(s:BitVec 32):BitVec 32:=s&&&(s-1#32)
def ab2{s}(h:s≠0):wide (vZ s)=Bs.rest (wide s):=by
 have:s.toNat≠0:=fun e=>h (sA (by grind));apply sA;unfold vZ Bs.rest;rw[Cz,Ei,Ei,Cz,Jb,Jb,Cz];have:=s.isLt
 grind
def YD:jE 0=[]:=Bs.Cw
def af3{s}(h:s≠0):jE s=nw s::jE (vZ s):=by
 unfold jE nw;rw[ab2 h];exact Bs.pA (fun e=>h (Ll.1 e))
def Q3{s}{i}:i∈jE s↔s.getLsbD i=true:=by unfold jE;rw[Bs.pH,Kf]
def Sg{s}(h:s≠0):nw s<32:=by
 have a:=Bs.qA (s:=wide s) (fun e=>h (Ll.1 e));rw[Kf]at a;apply KK;intro b;unfold nw at b
 grind
def afc{a b m n}(h:2^a*(2*m+1)=2^b*(2*n+1)):a=b:=by
 have:∀{a b m n:Nat},2^a*(2*m+1)=2^b*(2*n+1)->¬a<b:=by
  intro a b m n h c;have:=cg (fun x=>x.testBit a) h
  grind
 grind
def aaj{s}(h:s≠0):Lib.ctz 32 s.toNat=nw s:=by
 have a:s.toNat≠0:=fun e=>h (sA (by simpa using e));have e:Lib.ctz 32 s.toNat=Lib.ctzFrom 32 s.toNat:=by simp[Lib.ctz,a]
 have⟨m,b,_⟩:=Lib.ctzFrom_spec 32 s.toNat (by omega) s.isLt;have⟨n,c,_⟩:=Bs.DK (s:=wide s) (fun e=>h (Ll.1 e));rw[e];exact afc (b.s.t c)
def aao{s:BitVec 32}(h:s≠0):((s&&& -s)*125613361#32).toNat/134217728=2^nw s*125613361%4294967296/134217728:=by
 have a:s.toNat≠0:=fun e=>h (sA (by simpa using e));have b:=(Lib.lowest_bit 32 s.toNat a s.isLt).1;have e:(s&&& -s).toNat=2^nw s:=by
  rw[Ei,JP,Ga (by omega),<-aaj h];exact b
 rw[Jl,e];rfl
def mW(a:List (BitVec 32))(k:Nat):List (Nat×Nat):=(List.range k).flatMap fun i=>(jE (a.getD i 0)).map fun j=>(j,i)
def pk(a:List (BitVec 32)):List (Nat×Nat):=mW a a.length
def KA(ss)(k):mW ss (k+1)=mW ss k++(jE (ss.getD k 0)).map fun j=>(j,k):=by
 unfold mW;rw[jh,oI];simp
def Ud(s):(jE s).length<=64:=Bs.L4 _
def Sj(ss):∀k,(mW ss k)<=k*64
 |0=>by simp[mW]
 |k+1=>by
  rw[KA,dc,cV];have:=Sj ss k;have:=Ud (ss.getD k 0);omega
section
def Qx(s):IntKind.u32.wrap (-(V s))=V (-s):=by
 unfold V;simp[IntKind.wrap,IntKind.bits,IntKind.signed];omega
def XK(s t):IntKind.u32.wrap (V s*V t)=V (s*t):=by
 unfold V;simp[IntKind.wrap,IntKind.bits,IntKind.signed]
attribute [local go_sem] CF Hw E4 DW Fz Ux Qx
def abE(s:BitVec 32)(w)(a:s≠0)(c:bh w):
 Calls prog 217 #[s] w fun e m=>e=(Value.int .i64 (nw s:Nat))/\m=w:=by
 have:(s==0#32)=false:=by grind
 have⟨k,f⟩:=eX (2^nw s*125613361%4294967296/134217728:Nat);have g:=Sg a;have⟨h,b⟩:=Lib.deBruijn32_at (nw s) g;rw[<-f]at h b;have:V (s&&& -s)*125613361%4294967296/134217728=(k:Int):=by
  have:=aao a;have i:=XK (s&&& -s) 125613361#32;have n:V 125613361#32=125613361:=rfl;rw[n]at i;have o:IntKind.u32.wrap (V (s&&& -s)*125613361)=V (s&&& -s)*125613361%4294967296:=by simp[IntKind.wrap,IntKind.bits,IntKind.signed]
  rw[<-o,i];unfold V;omega
 have j:=c.t32 k h;rw[b]at j;have⟨d,l⟩:=eX (nw s);rw[<-l]at j g⊢;clear f b c l a;go_enter func217,ntmps217;go_wp2;go_ret;exact⟨rfl,rfl⟩
def DV(w:World)(A:Option Addr)(a:List (BitVec 32)):Prop:=
 0<a.length->∃b c,A=some ⟨b,c,none⟩/\b<w.1.size/\∀i,i<a.length->w.cell? ⟨b,c+i,none⟩=some (.int .u32 (V (a.getD i 0)))
def DV.Z{n}{w w'}{A}{ss}(h:DV w A ss)(f:Below n w w')(u:w<=n):DV w' A ss:=by
 intro g;have⟨b,off,e,o,r⟩:=h g;exact⟨b,off,e,aW o f.size,fun i hi=>(f.C (p:=⟨b,off+i,none⟩) (by grind)).t (r i hi)⟩
def Ly(p:Nat×Nat):List Value:=[Value.int .u8 (p.1:Int),Value.int .u8 (p.2:Int)]
def jA(l:List (Nat×Nat)):List Value:=l.flatMap Ly
def Zq(l)(p):jA (l++[p])=jA l++Ly p:=by simp[jA]
def Xn:(prog.info? 275).map (fun i=>(i.zero,i.size,i.bytes))=some (some (.agg #[.int .u8 0,.int .u8 0]),2,2):=by kernel_rfl
def cell_two_new(W:World)(x y)(e):∀j u,[x,y][j]? =some u->(W.alloc (.cells #[x,y] e)).cell? ((⟨W.1.size,0,none⟩:Addr).add j)=some u:=by
 intro j u a;have:(⟨W.1.size,0,none⟩:Addr).add j=⟨W.1.size,0+j,none⟩:=by unfold Addr.add;split<;>simp_all
 simp_all
def Fy:Value->Nat
 | .int _ n=>(jE (BitVec.ofInt 32 n)).length
 |_=>0
def Nt(s:BitVec 32):Fy s=(jE s):=by simp[Fy,Cv]
attribute [local go_sem] CF Hw E4 DW Fz Ux Qx
def Mn(A:Option Addr)(a:List (BitVec 32))(x:Nat)(w:World)(O:a.length<=24)(c:DV w A a)(f:bh w):
 Calls prog 167 #[.slice A a.length x] w fun e r=>∃v,e= .returned v/\r.ownsRow w.1.size 275 2 v (pk a).length (jA (pk a))/\Below w w r:=by
 have⟨y,z,C,E,F⟩:=eQ Xn;have n:=aA c f;clear c f;go_enter func167,ntmps167;go_wp2
 go_loopw [3,8] (fun v i wr=>∃k:Nat,k<=a.length/\i= .int .i64 k/\wr.ownsRow w.1.size 275 2 v (mW a k).length (jA (mW a k))/\Below w w wr) (fun _ i _=>a.length-(intOf i).toNat)
 case atStart=>exact⟨0,aQ _,rfl,gI _ _ _ _,aP _ _⟩
 obtain⟨k,P,rfl,l,c⟩:=hrel;by_cases H:k<a.length
 .obtain⟨b,Q,rfl,_,g⟩:=(n.a.Z c (av _)) (by omega)
  have I:=g k H;have⟨S,f⟩:=eX (a.getD k 0);rw[<-f]at I;have:=Sj a k;have:(k:Int)<a.length:=by omega
  have:IntKind.u8.wrap (k:Int)=(k:Int):=by simp[IntKind.wrap,IntKind.bits,IntKind.signed];omega
  have o:=aD l c f;clear l c g f;go_wp2
  go_loopw [3,5] (fun v s f=>∃(t:BitVec 32)(done:List Nat),s= .int .u32 (V t)/\done++jE t=jE S/\f.ownsRow w.1.size 275 2 v ((mW a k).length+done.length) (jA (mW a k++done.map fun j=>(j,k)))/\Below w w f) (fun _ s _=>Fy s)
  case atStart=>exact⟨S,[],rfl,rfl,by simpa using o.a,o.b⟩
  obtain⟨t,done,rfl,h,m,c⟩:=hrel;by_cases g:t=0
  .subst g;rw[YD,kL]at h;have p:wr.ownsRow w.1.size 275 2 u3 (mW a (k+1)).length (jA (mW a (k+1))):=by
    rw[KA,<-o.C,<-h,dc,cV];exact m
   have f:=aA p c;clear m p c h;go_wp2
   go_roundw
   case rel=>exact⟨k+1,by omega,by go_num,f.y⟩
   simp[intOf];omega
  have J:(t !=0#32)=true:=by simpa using g
  have p:=af3 g;have L:=Sg g;have:done.length+(jE t).length<=64:=by rw[<-dc,h];exact Ud S
  have M:(jE t).length=(jE (vZ t)).length+1:=by rw[p];simp
  have u:done++[nw t]++jE (vZ t)=jE S:=by rw[kZ,<-h,p];rfl
  have N:=c.size;have f:=dC m c u g M J;clear m c h p u
  go_wp2_with fail
  refine(abE t wr f.d (n.B.Z f.b n.B.lt)).m ?_;rintro e p ⟨rfl,rfl⟩;have⟨d,h⟩:=eX (nw t);have m:vZ t=t&&&(t-1#32):=rfl;rw[<-h];rw[<-h]at L;have:IntKind.u8.wrap (d:Int)=(d:Int):=by simp[IntKind.wrap,IntKind.bits,IntKind.signed];omega
  have u:=aD h m g;clear h m g
  go_wp2_with (at_builtin;refine qJ _ rfl _ _ 133 rfl w.1.size 275 y (.agg #[.int .u8 0,.int .u8 0]) 2 2 underlying133 z C E F rfl (dr rfl) _ _ _ rfl (f.a.alloc _) p 1 1 [.int .u8 d,.int .u8 k] rfl rfl (cell_two_new _ _ _ _) (by simp[Value.oneCell']) (by unfold maxLen;omega) (by omega) (by simp;omega) ?_;intro m R g h T)
  go_roundw
  case rel=>
   refine⟨vZ t,done++[nw t],rfl,f.c,?_,(f.b.alloc N _).b h (by simp;omega) (fun q e=>(f.a.lt q e).1)⟩;rw[dc,kx,<-kZ];show World.ownsRow _ _ _ _ _ _ (jA (_++[(nw t,k)]));rw[Zq,<-u.a];exact g
  show Fy (.int .u32 (V (vZ t)))<_;rw[Nt,Nt,f.e];omega
 have g:k=a.length:=by omega
 subst g;have h:=aA l c;clear l c;go_wp2;go_ret;exact⟨_,rfl,h.y⟩
end
section
attribute [local go_sem] Bv.fE Bv.fO Bv.fA Bv.fL Bv.fC Bv.gn Bv.fP Bv.fQ
def XJ(A)(n c)(w):(binOp .eql 65 (.slice A n c) nS).run prog w= .ok A.isNone w:=by
 simp only[binOp];simp[Op.equal,Op.maxDepth,KU w 9999 65 3 A n c 0 0 underlying65]
def VT{ops}{rest}{op}{a}{w}{Q}(e:Region.wanted op (yielded ops a.tmps)=true)(x)(f:op.op= .binOp .eql 65 x (.const nS) 65)
 (A)(n c)(b)(g:a.eval x= .slice A n c)(i:A.isNone=b)
 (h:wpList prog ops Q rest (a.put op.dst b) w):wpList prog ops Q (op::rest) a w:=
 D3 e fun K j=>by
  unfold Oper.wp execOp;subst i;simp only[f,g,BigFrame.eval_const,eD,eZ,XJ];exact j _ _ h
def afR(x:List Nat)(w:World)(e:Ending)(a:World):Prop:=
 ∃g c,e= .returned (.slice (g:Nat) x.length c)/\a.ownsRow w.1.size 3 1 (.slice (g:Nat) x.length c) x.length (nums x)/\Below w w a
def Rq(x)(v)(w)(z:xm x v w)(R:x.length<=1000):
 Calls prog 171 #[v] w (afR x w):=by
 have⟨A,C,E,F,H⟩:=eQ zr;obtain⟨g,c,rfl,f⟩:=z;have i:=LM (base:=w.1.size) (e:=3) (size:=1) w #[] 0 (av _) (by omega) rfl;have m:∀j u,(nums x)[j]? =some u->(w.alloc (.cells #[] 3)).cell? ((⟨g,0,none⟩:Addr).add j)=some u:=fun j u a=>by
  have n:j<x.length:=by have:=(bL.1 a).1;simpa[nums]using this
  have⟨b,T,e1,I,J⟩:=f (by rw[iL];omega);injection e1 with e1;injection e1 with e1 e2;subst e1 e2;have o:=J j (by rw[iL];exact n);rw[show(⟨g,0,none⟩:Addr).add j=⟨g,0+j,none⟩from Go.WideShapes.add_plain ..,yA _ _ _ (show(⟨g,0+j,none⟩:Addr).block≠w from xp I),o];have p:=aI n;have L:(nums x)[j]? =(x[j]:Int):=by unfold nums;rw[dG,p];rfl
  rw[L]at a;injection a with a;rw[<-a];unfold ints
  grind
 have l:=aA i m;clear i m f;go_enter func171,ntmps171
 go_wp2_with (first|(refine VT rfl (.tmp 3) rfl g x c false rfl rfl ?_)|(at_builtin;refine qJ _ rfl _ _ 65 rfl w 3 A (.int .i64 0) 1 8 underlying65 C E F H rfl (dr rfl) _ 0 [] rfl l.a g x c (nums x) rfl (by simp[nums]) l.B (by intro u a;simp[nums]at a;obtain⟨k,_,rfl⟩:=a;rfl) (by unfold maxLen;omega) (by omega) (by simp) ?_;intro m M i q r))
 have N:m≠nS:=fun h=>by
  have:=(r.1 h).1;cases this
 rw[cK,gG]at i;have⟨A',s,e1,_,_,O⟩:=tI i;have t:=(ba w (.cells #[] 3)).b q (by simp) (fun k e=>(l.a.lt k e).1);have P:∃f s,m= .slice (f:Nat) x.length s/\w.1.size<=f/\f<M.1.size:=by
  obtain⟨W,_⟩|⟨f,X,aa,ab,ad,ae,_⟩:=i.2
  .grind
  grind
 obtain⟨f,Q,e2,o,p⟩:=P;subst e2;have y:=aA i t;clear i q r N O t e1;go_wp2;go_ret;exact⟨f,Q,rfl,y.a,y.B⟩
def UM(pb)(n)(f)(h:Int)(b)(c:(decide (0<=h/\h<=10000)&&Rl.iq n f)=b)(w)(g:aG w pb n f):
 Calls prog 169 #[.pointer pb,h] w (Rs b w):=by
 obtain⟨l,a⟩:∃x,Rl.iq n f=x:=⟨_,rfl⟩
 rw[a]at c;have i:=aD g a c;clear g a c;by_cases m:0<=h
 .have:=fB m;by_cases j:h<=10000
  .have d1:=fB j;have a:l=b:=by have:=i.C;rw[fB ⟨m,j⟩,kQ]at this;exact this
   go_enter func169,ntmps169
   go_wp2_with (refine O4 rfl (.tmp 13) rfl pb n f rfl i.a ?_)
   with_reducible refine(lM n f l i.b _).m ?_
   rintro e o ⟨rfl,c⟩;have g:=aA c a;clear c a;go_wp2;go_ret;exact⟨by rw[g.B];rfl,g.a⟩
  have:=gX j;have a:b=false:=by have:=i.C;rw[gX (by omega)]at this;exact this.s
  have g:=H a;clear a;go_enter func169,ntmps169;go_wp2;go_ret;exact⟨by rw[g.y];rfl,aP _ _⟩
 have a:b=false:=by have:=i.C;rw[gX (by omega)]at this;exact this.s
 have g:=H a;clear a;go_enter func169,ntmps169;go_wp2;go_ret;exact⟨by rw[g.y];rfl,aP _ _⟩
def DH{F}(g:∀f,F.fn f)(b:F.depth=none){n}{P}{w}{o}{a}{K}{Q}(f)(args)(i:∀c,o.op≠ .defer c)
 (j:(execOp a.eval o).run P w= .ok (.enter f args) w)(h:CallsIn F (n-1) P f args w fun e b=>∃v,e= .returned v/\K (a.put o.dst v) b):Oper.wpIn F n P o a w K Q:=by
 unfold Oper.wpIn;refine⟨fun _ _=>g _,?_⟩;rw[oG F _ _ i,j,Oper.uponIn_enter];exact⟨fun h=>(by grind),h.m fun e b ⟨v,i,l⟩=>by grind⟩
def Cf{F}(b:∀f,F.fn f){n}{P}{w}{o}{a}{K}{Q}(v)(w')(e:∀c,o.op≠ .defer c)
 (g:(execOp a.eval o).run P w= .ok (.value v) w')(h:K (a.put o.dst v) w'):Oper.wpIn F n P o a w K Q:=by
 unfold Oper.wpIn;refine⟨fun _ _=>b _,?_⟩;rw[oG F _ _ e,g,Oper.uponIn_value];exact h
end
section
attribute [local go_sem] Oper.semAt_some
attribute [local go_sem] Bv.fE Bv.fO Bv.fA Bv.fL Bv.fC Bv.gn Bv.fP Bv.fQ
def E3{P:Program}(w)(t ty)(base)(e)(i:TypeInfo)(z:Value)(size bytes)(s:P.underlying t=some (.slice e))(x:P.info? e=i)(F:i.zero=z)
 (y:i.size=size)(H:i.bytes=bytes)(I:z.cells.size=size)(J:0<size)
 (v)(n)(xs)(h:w.ownsRow base e size v n xs)(ad)(m c)(l:List Value)(A:l=m*size)(C:∀j u,l[j]? =some u->w.cell? (ad.add j)=some u)(L:∀u∈l,u.oneCell'=true)
 (M:n+m<=maxLen)(N:(n+m)*bytes<=140737488355328)(O:base<=w.1.size):
 ∃o a,(Builtin.append_ #[t,t] ty #[v,.slice (some ad) m c]).run P w= .ok o a/\a.ownsRow base e size o (n+m) (xs++l)/\a.ownsRow base e size v n xs/\w.grownBy a v.ownBlock/\(∀b,o.ownBlock=some b->v.ownBlock=some b\/w.1.size<=b):=by
 obtain⟨rfl,rfl⟩|⟨g,E,W,rfl,p,X,aa,_⟩:=h.2
 .have Q:=zM (by have:=h.1;simpa using this);subst Q;have⟨o,a,r,f,q,_⟩:=run_append_own (P:=P) w w.1.size t ty e i z size bytes s x F y H I J nS 0 [] (gI _ _ _ _) ad m c l A C L M N (av _);exact⟨o,a,r,Bo.Ip f O,gI _ _ _ _,q,fun b p=> .inr (f.lt b p).1⟩
 have R:=h.cells (g:=g) rfl;by_cases T:n+m<=E
 .have⟨a,r,f,q⟩:=run_append_own_spare (P:=P) w base t ty e i size s x y g n E xs h ad m c l A C L T;exact⟨_,a,r,f,Bo.Kt f h.1,q,fun b p=> .inl p⟩
 have⟨o,a,r,f,q⟩:=run_append_arg_grows (P:=P) w t ty e i z size bytes s x F y H I J g n E xs h.1 R ad m c l A C (by omega) M N;exact⟨o,a,r,Bo.Ip f O,h.K q (.inr (by simp[Value.ownBlock])),Bo.X5 q,fun b p=> .inr (f.lt b p).1⟩
def VK{F}(l:∀f,F.fn f){n}{P}(w){o}{a}{K}{Q}
 (s x)(t)(p:o.op=Op.call {callee:=Callee.builtin Builtin.append,args:=#[s,x],argTypes:=#[t,t]})
 (base)(e)(i)(z)(size bytes)(q:P.underlying t=some (.slice e))(r:P.info? e=some i)(y:i.zero=some z)(A:i.size=size)(C:i.bytes=bytes)(E:z.cells.size=size)(H:0<size)
 (v)(k)(xs)(I:a.eval s=v)(J:w.ownsRow base e size v k xs)(ad)(m c)(news)(L:a.eval x= .slice (some ad) m c)(M:news.length=m*size)
 (N:∀j u,news[j]? =some u->w.cell? (ad.add j)=some u)(O:∀u∈news,u.oneCell'=true)(g:0<k+m)(R:k+m<=maxLen)(T:(k+m)*bytes<=140737488355328)(W:base<=w.1.size)
 (X:∀g h,h.ownsRow base e size g (k+m) (xs++news)->w.grownBy h v.ownBlock->(∀b,g.ownBlock=some b->v.ownBlock=some b\/w.1.size<=b)->K (a.put o.dst g) h):
 Oper.wpIn F n P o a w K Q:=by
 have⟨g,h,aa,ab,_,ae,af⟩:=E3 (P:=P) w t o.type base e i z size bytes q r y A C E H v k xs J ad m c news M N O R T W;unfold Oper.wpIn;refine⟨fun _ _=>l _,?_⟩;rw[oG F _ _ (by grind)];simp[execOp,p,resolve,invoke,builtin,I,L,aa,Result.andThen];exact X g h ab ae af
def VG:(prog.info? 65).map (fun i=>(i.zero,i.size,i.bytes))=some (some nS,1,24):=by kernel_rfl
def dJ{w a:World}{base n}{e}{size}{v}{xs}(h:w.ownsRow base e size v n xs)(f:∀b,v.ownBlock=some b->b<w.1.size->a.1[b]? =w.1[b]?):a.ownsRow base e size v n xs:=by
 refine⟨h.1,?_⟩;obtain m|⟨g,i,j,rfl,l,c,rest⟩:=h.2
 .grind
 exact .inr ⟨g,i,j,rfl,l,(f g rfl (gS.1 c).1).t c,rest⟩
def aeh{w:World}{b1 b2 n1 n2 s1 s2}{e1 e2}{v1 v2}{x1 x2}(a:w.ownsRow b1 e1 s1 v1 n1 x1)(c:w.ownsRow b2 e2 s2 v2 n2 x2)(e:e1≠e2)(b)(f:v1.ownBlock=some b):v2.ownBlock≠some b:=by
 obtain h|h:=N7 a c e
 .grind
 grind
def GG(a:List Nat)(W:World)(x:List Nat)(u:Value):Prop:=∃g c,u= .slice (g:Nat) x.length c/\g∈a/\W.ownsRow 0 3 1 u x.length (nums x)
def GG.same{fp fp'}{W W'}{x}{u}(h:GG fp W x u)(i:∀b∈fp,b∈fp')(o:∀b∈fp,u.ownBlock=some b->b<W.1.size->W'.1[b]? =W.1[b]?):GG fp' W' x u:=by
 obtain⟨g,c,rfl,f,r⟩:=h;exact⟨g,c,rfl,i g f,dJ r fun b e w=>o b (by injection e with e;rw[<-e];exact f) e w⟩
structure sc(base b4:Nat)(pre:List (List Nat))(fp:List Nat)(v:Value)(vs:List Value)(W:World):Prop where
 box:Boxed W b4 91 v
 row:W.ownsRow base 65 1 v pre.length vs
 f:∀b,v.ownBlock=some b->b∈fp
 Kj:∀(i:Nat)(x:List Nat),pre[i]? =some x->∃u,vs[i]? =some u/\GG fp W x u
def sc.steps{base b4 B}{pre}{fp}{v}{vs}{W W'}(h:sc base b4 pre fp v vs W)(f:b4<B)(g:Rg.Steps B fp W W'):sc base b4 pre fp v vs W':=
 ⟨(g.block b4 h.box.lt (.inl f)).t h.box,dJ h.row fun b e o=>g.block b o (.inr (h.f b e)),h.f,fun i x hi=>by
   have⟨u,r,w⟩:=h.Kj i x hi;exact⟨u,r,w.same (fun _ h=>h) (fun b f _ o=>g.block b o (.inr f))⟩⟩
def sc.next{base b4 B}{pre}{fp}{v o}{vs}{W W2 W3}{x}{g c:Nat}(h:sc base b4 pre fp v vs W)(ah:b4<B)(E:Below W.1.size W W2)
 (F:W2.ownsRow W.1.size 3 1 (.slice g x.length c) x.length (nums x))
 (P:W3.ownsRow base 65 1 o (pre.length+1) (vs++[.slice g x.length c]))(w:(W2.alloc (.cells #[.slice g x.length c] 65)).grownBy W3 v.ownBlock)
 (Q:∀b,o.ownBlock=some b->v.ownBlock=some b\/(W2.alloc (.cells #[.slice g x.length c] 65)).1.size<=b):
 ∃H,sc base b4 (pre++[x]) H o (vs++[.slice g x.length c]) (W3.setCell b4 o)/\Rg.fh B fp H W (W3.setCell b4 o):=by
 have:=F.lt g rfl;have r:Below W.1.size W (W2.alloc (.cells #[.slice g x.length c] 65)):=E.alloc E.size _;have R:∀b,v.ownBlock=some b->b≠b4:=fun b e e2=>(h.box.not_row (dr rfl) h.row) (by rw[e,e2])
 have T:v.ownBlock≠some b4:=fun e=>R b4 e rfl;have X:∀b,b<W.1.size->v.ownBlock≠some b->W3.1[b]? =W.1[b]?:=fun b f A=>(w.block b (aW f r.size) (fun e=>A e.s)).t (r.block b f);have I:∀b,b≠b4->(W3.setCell b4 o).1[b]? =W3.1[b]?:=fun b A=>cP _ _ _ _ A;have J:Boxed W3 b4 91 v:=(X b4 h.box.lt T).t h.box;obtain⟨C,aa⟩:∃C:List Nat,∀b,b∈C↔o.ownBlock=some b:=by
  cases o.ownBlock with
  |none=>exact⟨[],fun b=>by simp⟩
  |some k=>exact⟨[k],fun b=>by grind⟩
 have ad:∀b,o.ownBlock=some b->b≠b4:=fun b e e2=>(J.not_row (dr rfl) P) (by rw[e,e2])
 refine⟨g::(C++fp),⟨J.set o,dJ (by grind) (fun b e f=>I b (ad b e)),fun b e=>by grind,fun i y hi=>?_⟩,⟨?_,fun b f=>?_,fun b ai aj ae=>?_⟩⟩
 .have:vs.length=pre.length:=by have:=h.row.1;simpa using this
  by_cases af:i<pre.length
  .rw[lE af]at hi;have⟨u,ak,L⟩:=h.Kj i y hi;refine⟨u,by grind,L.same (fun b f=>by simp[f]) (fun b f e al=>?_)⟩;obtain⟨am,an,_,_,M⟩:=L;have N:=aeh M h.row (dr rfl) b e;have O:b≠b4:=fun e2=>(h.box.not_row (dr rfl) M) (by rw[e,e2])
   grind
  have ag:i=pre.length:=by
   grind
  subst ag;simp at hi;subst hi;refine⟨.slice g x.length c,by grind,g,c,rfl,by simp,?_⟩;have N:v.ownBlock≠some g:=fun e=>by have:=(h.row.lt g e).2;omega
  have O:g≠b4:=by have:=h.box.lt;omega
  refine Bo.Ip (dJ ((F.alloc (.cells #[.slice g x.length c] 65))) fun b e f=>?_) (aQ _);cases e;exact(I g O).t (w.block g f (fun e=>N e.s))
 .have:=w.size;have:=r.size;simp[World.setCell]at*;omega
 .simp only[fI,mg]at f;obtain rfl|f|f:=f
  .omega
  .obtain e|e:=Q b ((aa b).1 f)
   .exact .inl (h.f b e)
   exact .inr (aO r.size e)
  grind
 have:v.ownBlock≠some b:=fun e=>ae (h.f b e)
 grind
end
section
attribute [local go_sem] Oper.semAt_some
attribute [local go_sem] Bv.fE Bv.fO Bv.fA Bv.fL Bv.fC Bv.gn Bv.fP Bv.fQ
def IY(base:Nat)(l:List (List Nat))(v:Value)(W:World):Prop:=∃vs,W.ownsRow base 65 1 v l.length vs/\∀(i:Nat)(x:List Nat),l[i]? =some x->∃u,vs[i]? =some u/\∃g c,u= .slice (g:Nat) x.length c/\base<=g/\W.ownsRow 0 3 1 u x.length (nums x)
def PF(l:List (List Nat))(b:Int)(w:World)(e:Ending)(a:World):Prop:=
 ∃v,e= .returned (.tuple #[v,.int .i64 b])/\IY w.1.size l v a/\Below w w a
structure uK(w:World)(b4 aJ:Nat)(pre:List (List Nat))(fp:List Nat)(W:World):Prop where
 JV:Boxed W (w.1.size+1) 3 (.int .i64 aJ)
 da:Boxed W (w.1.size+2) 91 nS
 err:Boxed W (w.1.size+3) 38 (.int .i64 0)
 Lk:∃v vs,sc w.1.size b4 pre fp v vs W
 y:Below w w W
 new:∀b∈fp,b4<b
 len:pre.length<=aJ
def DY(w:World)(L a:Nat)(c:Code)(b:List (List Nat))(W:World):Prop:=
 c= .ret/\Boxed W (w.1.size+2) 91 nS/\Boxed W (w.1.size+3) 38 (.int .i64 5)/\Below w w W/\a<L
def uK.steps{w}{b4 aJ B}{pre}{fp}{W W'}(h:uK w b4 aJ pre fp W)(r:w+4<=b4)(u:b4<B)(f:Rg.Steps B fp W W'):uK w b4 aJ pre fp W':=by
 have key:∀{b:Nat}{t:TypeId}{v:Value},b<B->Boxed W b t v->Boxed W' b t v:=fun i h=>(f.block _ h.lt (.inl i)).t h;have⟨v,vs,o⟩:=h.Lk;exact⟨key (by omega) h.JV,key (by omega) h.da,key (by omega) h.err,⟨v,vs,o.steps (by omega) f⟩,
  ⟨f.os.t h.y.os,f.tape.t h.y.tape,f.output.t h.y.output,aO h.y.size f.size,fun k g=>(f.block k (aW g h.y.size) (.inl (by omega))).t (h.y.block k g)⟩,h.new,h.len⟩
def aei{x}{v}(W)(l)(a f:Obj)(q:W.1[l]? =a)(s:a.isCells=false)(h:xm x v W):xm x v (W.putObj l f):=by
 obtain⟨g,c,rfl,j⟩:=h;refine⟨g,c,rfl,fun m=>?_⟩;have⟨b,n,e,t,o⟩:=j m;exact⟨b,n,e,by simp_all,fun i p=>iR (o i p) (eC W l f) (fun r e=>by grind)⟩
def DY.put{w}{L aJ l:Nat}{c}{pre}{W}{g f:Obj}(h:DY w L aJ c pre W)(i:w+4<=l)(_:W.1[l]? =g):DY w L aJ c pre (W.putObj l f):=
 ⟨h.1,(dX (by omega)).t h.2.1,(dX (by omega)).t h.2.2.1,h.2.2.2.1.b (eC W l f) h.2.2.2.1.size (fun k e=>by grind),h.2.2.2.2⟩
def TB{c}:∀(k:Nat)(left:BitVec 64)(l x:List Nat),x∈Rl.ext c k left l->x.length<=l+k
 |0,left,l,x,h=>by simp[Rl.ext]at h;subst h;omega
 |k+1,left,l,x,h=>by
  unfold Rl.ext at h;split at h
  .grind
  have⟨a,_,b⟩:=mR.1 h;split at b
  .have:=TB k _ _ x b
   grind
  grind
def VW{n}{f}{x}(h:x∈Rl.eL n f):x.length<=64:=by
 unfold Rl.eL at h;split at h
 .have:=TB 64 _ _ x h;omega
 cases h
def uK.next{w}{f aJ B}{pre}{fp}{W W2 W3}{v v'}{vs}{x:List Nat}{g c:Nat}(h:uK w f aJ pre fp W)(i:sc w f pre fp v vs W)(Q:w+4<=f)(J:f<B)(R:pre<aJ)
 (A:Below W W W2)(L:W2.ownsRow W 3 1 (.slice g x c) x (nums x))
 (M:W3.ownsRow w 65 1 v' (pre+1) (vs++[.slice g x c]))(C:(W2.alloc (.cells #[.slice g x c] 65)).grownBy W3 v.ownBlock)
 (N:∀b,v'.ownBlock=some b->v.ownBlock=some b\/(W2.alloc (.cells #[.slice g x.length c] 65)).1.size<=b):
 ∃o,uK w f aJ (pre++[x]) o (W3.setCell (f:Nat) v')/\Rg.fh B fp o W (W3.setCell (f:Nat) v'):=by
 have⟨o,O,F⟩:=i.next J A L M C N
 have r:Below W W (W2.alloc (.cells #[.slice g x c] 65)):=A.alloc A.size _;have H:=h.y.size;have box:∀{b:Nat}{t:TypeId}{y:Value},t≠65->b≠f->Boxed W b t y->Boxed (W3.setCell f v') b t y:=fun{b t y} P E u=>
  (cP _ _ _ _ E).t ((C.block b (aW u.lt r.size) (u.not_row P i.row)).t ((r.block b u.lt).t u))
 refine⟨o,⟨box (dr rfl) (by omega) h.JV,box (dr rfl) (by omega) h.da,box (dr rfl) (by omega) h.err,⟨_,_,O⟩,?_,fun b E=>?_,by grind⟩,F⟩
 .exact((h.y.t (r.m H)).b C (aO H r.size) (fun k e=>(i.row.lt k e).1)).setCell (p:=f) (by grind) _
 obtain I|I:=F.new b E
 .exact h.new b I
 have:=i.box.lt;omega
def sc.lists{base b4}{l}{fp}{v}{vs}{W W'}(h:sc base b4 l fp v vs W)(A:∀b∈fp,b4<b)(f:base<=b4)(o:∀b∈fp,b<W->W'.1[b]? =W.1[b]?):IY base l v W':=
 ⟨vs,dJ h.row fun b e f=>o b (h.f b e) f,fun i x hi=>by
   have⟨u,r,g,c,e,w,y⟩:=h.Kj i x hi;exact⟨u,r,g,c,e,by grind,dJ y fun b e2 f=>o b (by rw[e]at e2;injection e2 with e2;rw[<-e2];exact w) f⟩⟩
def OS{fn}{p q:Tmp}(h:fn.results=#[.cell p 91,.cell q 38])(tmps)(w)(b c)(A)(n cp)(e)
 (j:tmps.getD p undef= .pointer (b:Nat))(l:tmps.getD q undef= .pointer (c:Nat))(a:w.cell? (b:Nat)=some (.slice A n cp))(f:w.cell? (c:Nat)=some (.int .i64 e)):
 (results fn tmps).run prog w= .ok (.tuple #[.slice A n cp,.int .i64 e]) w:=by
 have g:tmps[p]?.getD undef= .pointer (b:Nat):=by simp_all
 have i:tmps[q]?.getD undef= .pointer (c:Nat):=by simp_all
 simp[results,h,g,i,asAddr,go_sem,a,f]
def afr(n:Nat)(f:Rl.Rows)(m:Nat)(aT:m<=10000)(w:World)(al:Rl.Ok n f)(a:bh w)(j:2<w.1.size):
 Calls prog 103 #[(ar n f),.int .i64 m] w (PF (if(Rl.eL n f)<=m then Rl.eL n f else []) (if(Rl.eL n f)<=m then 0 else 5) w):=by
 have⟨aI,aK,aL,aM,aN⟩:=eQ VG;have⟨aU,L⟩:=eX (if(Rl.eL n f)<=m then Rl.eL n f else []);have⟨E,M⟩:=eX ((if(Rl.eL n f)<=m then 0 else 5):Int);rw[<-L,<-M];have aa:=aY L M a j;clear L M a j;have H:∀I,I=(((w.alloc (.cells (ar n f) 53)).alloc (.cells #[.int .i64 m] 3)).alloc (.cells #[nS] 91)).alloc (.cells #[.int .i64 0] 38)->
  aG I w n f/\Boxed I (w+1) 3 (.int .i64 m)/\Boxed I (w+2) 91 nS/\Boxed I (w+3) 38 (.int .i64 0)/\Below w w I/\I.1.size=w+4:=by
  rintro I rfl;have am:=dE (w.alloc (.cells (ar n f) 53)) 3 (.int .i64 m);have an:=dE ((w.alloc (.cells (ar n f) 53)).alloc (.cells #[.int .i64 m] 3)) 91 nS;have ao:=dE (((w.alloc (.cells (ar n f) 53)).alloc (.cells #[.int .i64 m] 3)).alloc (.cells #[nS] 91)) 38 (.int .i64 0);simp only[cT,mq,Nat.reduceAdd]at am an ao;exact⟨(((aG.new w n f).alloc _).alloc _).alloc _,(am.alloc _).alloc _,an.alloc _,ao,(((ba w _).alloc (by simp) _).alloc (by simp;omega) _).alloc (by simp;omega) _,by simp⟩
 refine(dh (n:=9)).1 ?_;refine sZ func103 rfl trivial ?_ rfl;simp only[ntmps103,jC,gL,iP,Nat.reduceAdd,Nat.reduceSub,j8,j5,kh,kj,gG,iJ]
 gi_wp2_with fail
 generalize J:(((w.alloc (.cells (ar n f) 53)).alloc (.cells #[.int .i64 m] 3)).alloc (.cells #[nS] 91)).alloc (.cells #[.int .i64 0] 38)=I;have⟨a,j,y,C,F,s⟩:=H I J.s;have N:(decide ((0:Int)<=(m:Int)/\(m:Int)<=10000)&&Rl.iq n f)=true:=by rw[Rl.oC al,fB ⟨by omega,by omega⟩];rfl
 refine⟨trivial,?_⟩;refine(dh.2 (UM w.1.size n f m true N _ a)).st fun q z=>?_;have ab:=dC (a.Z z a.lt) (show Boxed q _ _ _ from(z.block _ j.lt).t j) (show Boxed q _ _ _ from(z.block _ y.lt).t y) (show Boxed q _ _ _ from(z.block _ C.lt).t C) (F.t (z.m F.size)) (show w.1.size+4<=q by have:=z.size;omega);clear H a j y C F s z N J
 gi_wp2_with (refine Fq rfl (.tmp 2) rfl w n f rfl (ab.a.alloc _) ?_)
 refine⟨trivial,?_⟩;refine(dh.2 (aas n f _)).m ?_;rintro e aV ⟨rfl,rfl⟩
 gi_wp2_with fail
 have a:aG ((q.alloc (.cells #[nS] 91)).alloc (.cells (ar n f) 53)) (q+1) n f:=by
  have:=aG.new (q.alloc (.cells #[nS] 91)) n f;simpa using this
 have R:((q.alloc (.cells #[nS] 91)).alloc (.cells (ar n f) 53)).1.size=q+2:=by simp
 have j:Below q q ((q.alloc (.cells #[nS] 91)).alloc (.cells (ar n f) 53)):=(ba q _).alloc (by simp) _;have y:uK w q m [] [] ((q.alloc (.cells #[nS] 91)).alloc (.cells (ar n f) 53)):=
  ⟨(ab.b.alloc _).alloc _,(ab.c.alloc _).alloc _,(ab.d.alloc _).alloc _,⟨nS,[],(dE q _ _).alloc _,gI _ _ _ _,fun b e=>(by cases e),fun i x e=>(by simp at e)⟩,ab.e.t (j.m ab.e.size),fun b z=>(by cases z),aQ _⟩
 have aj:=aD a y al;have ap:=ab.F;clear a y j;refine np.one (n:=9) rfl (by omega) (gf:=218) (lb:=#[.pointer (q+1:Nat)]) rfl trivial (gH func218 (by kernel_rfl) rfl) (aP _ _) (uK w q m) (DY w (Rl.eL n f) m) (fun C ag W h=>⟨aa.c.Z h.y aa.D,aW aa.D h.y.size⟩) (fun c C W l a j ad X _ y=>y.put (by rw[R]at ad;omega) X) [] (fun b z=>by cases z) aj.b ?done ?stop (WT n f aj.C (q+1) _ aj.a 8) rfl (fun x v W l a j ad X P=>aei W l a j ad X P) (fun C ag W W' h a=>h.steps ap (by rw[R];omega) a) (fun v=>{tmps:=#[(ar n f),.int .i64 m,.pointer w,.pointer (w+1:Nat),.pointer (w+1+1:Nat),.pointer (w+1+1+1:Nat),.pointer q,v,.int .i64 m,.bool true,.bool false,(ar n f),.func (.func 218) #[] #[.pointer (q+1:Nat)],v,undef,undef,undef,undef,undef,undef,undef,undef,undef,undef],defers:=[]}) ?assign ?body
 case assign=>
  intro l v W K a
  gi_wp2
  exact a
 case body=>
  rintro l C ag x v W y ae ⟨g,c,rfl,J⟩ s Q;have⟨v,vs,N⟩:=y.Lk;obtain⟨A,F,rfl⟩:∃A F,v= .slice A C F:=by
   obtain⟨h,ah⟩|⟨au,aw,ax,h,_⟩:=N.row.2
   .exact⟨none,0,by rw[h,ah]⟩
   exact⟨_,_,h⟩
  have ay:=N.box.C;have:=y.JV.C;have af:x.length<=64:=VW (by obtain⟨t,j⟩:=ae;rw[<-j];simp);by_cases H:C=m
  .have d0:((C:Int)==(m:Int))=true:=by rw[H];exact beq_self_eq_true _
   have d1:(C==m)=true:=by rw[H];exact beq_self_eq_true _
   have aX:=y.da.C;have aZ:=y.err.C;have f2:=y.da.frozen;have f3:=y.err.frozen;have ai:m<(Rl.eL n f):=by
    have:=ae.length_le;simp at this;omega
   have j:=aD y ai s;clear y N J ae Q H ai s
   gi_wp2
   have ai:=j.a.y;refine⟨ag,⟨rfl,(j.a.da.set nS).other (by omega) _,(j.a.err.other (by omega) _).set _,(ai.setCell (p:=(w+1+1:Nat)) (by show w.1.size<=w+1+1;omega) _).setCell (p:=(w+1+1+1:Nat)) (by show w.1.size<=w+1+1+1;omega) _,j.b⟩,⟨by simp[World.setCell],fun b z=> .inl z,fun b ad X P=>?_⟩⟩;rw[R]at ad;exact(cP _ _ _ _ (by show b≠w+1+1+1;omega)).t (cP _ _ _ _ (by show b≠w+1+1;omega))
  have:((C.length:Int)==(m:Int))=false:=by simp;omega
  have:(C==m)=false:=by simp;omega
  have P:C<m:=by have:=y.len;omega
  have j:=dC y N J P af s;clear y N J ae Q H P s af
  gi_wp2
  refine Dl (by kernel_rfl) ?_;change wpAnyIn _ _ _ _ _ _ _ _ _ (World.drew _);refine(fun(T:∀H P Q,Below W W H->H.ownsRow W 3 1 (.slice (P:Nat) x.length Q) x.length (nums x)->(?G:World->Nat->Nat->Prop) H P Q)=>?_) ?_;rotate_left
  .refine(fun(az:?G2)=>?_) ?_;rotate_left
   .refine uy (rs:=[0,1]) (by kernel_rfl) (by simp) ?_;refine(kT (by simp only[u];rfl) (fun K a=>?_) (kT (by simp only[u];rfl) (fun K a=>?_) tD))
    ·
     go_simp;refine a _ _ ?_;clear a K
     try simp only[o]
     refine gV 1 (by kernel_rfl) (by simp only[u];rfl) fun K a=>?_;go_simp;refine a _ _ ?_;clear a K
     try simp only[o]
     exact az
    ·
     go_simp;refine a _ _ ?_;clear a K
     try simp only[o]
     refine uy (rs:=[0,2]) (by kernel_rfl) (by simp) ?_;refine(kT (by simp only[u];rfl) (fun K a=>?_) (kT (by simp only[u];rfl) (fun K a=>?_) tD))
     ·
      go_simp;refine a _ _ ?_;clear a K
      try simp only[o]
      exact az
     ·
      rw[aq (by rfl)];refine DH (fun _=>trivial) rfl 171 #[.slice g x c] (by intro c h;cases h) (by simp[execOp,go_sem]) ?_;refine(KC l (dh.2 (Rq x _ W.drew ⟨g,c,rfl,j.c⟩ (by have:=j.e;omega)))).m ?_;rintro e H ⟨P,Q,rfl,J,s⟩;have s:Below W W H:=⟨s.os,s.tape,s.output,s.size,s.block⟩
      have J:=J;have ak:=(s.C (p:=q) j.b.box.lt).t ay;have a0:(H.alloc (.cells #[.slice P x Q] 65)).cell? q=some (.slice A C F):=by rw[yA _ _ _ (show q.1.size≠H by have:=j.b.box.lt;have:=s.size;omega)];exact ak
      refine⟨_,rfl,?_⟩;refine a _ _ ?_;clear a K
      try simp only[o]
      refine uy (rs:=[0,3]) (by kernel_rfl) (by simp) ?_;refine(kT (by simp only[u];rfl) (fun K a=>?_) (kT (by simp only[u];rfl) (fun K a=>?_) tD))
      ·
       go_simp;refine a _ _ ?_;clear a K
       try simp only[o]
       refine gV 3 (by kernel_rfl) (by simp only[u];rfl) fun K a=>?_;go_simp;refine a _ _ ?_;clear a K
       try simp only[o]
       exact T _ _ _ s J
      ·
       go_simp;refine a _ _ ?_;clear a K
       try simp only[o]
       refine gV 0 (by kernel_rfl) (by simp only[u];rfl) fun K a=>?_;go_simp;refine a _ _ ?_;clear a K
       try simp only[o]
       exact T _ _ _ s J
   refine gV 2 (by kernel_rfl) (by simp only[u];rfl) fun K a=>?_;rw[aq (by rfl)];refine DH (fun _=>trivial) rfl 171 #[.slice g x c] (by intro c h;cases h) (by simp[execOp,go_sem]) ?_;refine(KC l (dh.2 (Rq x _ W.drew ⟨g,c,rfl,j.c⟩ (by have:=j.e;omega)))).m ?_;rintro e H ⟨P,Q,rfl,J,s⟩;have s:Below W W H:=⟨s.os,s.tape,s.output,s.size,s.block⟩
   have J:=J;have ak:=(s.C (p:=q) j.b.box.lt).t ay;have:(H.alloc (.cells #[.slice P x Q] 65)).cell? q=some (.slice A C F):=by rw[yA _ _ _ (show q.1.size≠H by have:=j.b.box.lt;have:=s.size;omega)];exact ak
   refine⟨_,rfl,?_⟩;refine a _ _ ?_;clear a K
   try simp only[o]
   refine gV 3 (by kernel_rfl) (by simp only[u];rfl) fun K a=>?_;go_simp;refine a _ _ ?_;clear a K
   try simp only[o]
   exact T _ _ _ s J
  intro H P Q s J;refine gV 4 (by kernel_rfl) (by simp only[u];rfl) fun K a=>?_;rw[aq (by rfl)];refine VK (fun _=>trivial) _ (.tmp 18) (.tmp 21) 91 rfl w 65 aI nS 1 24 underlying91 aK aL aM aN rfl (dr rfl) (.slice A C F) C vs rfl ((PV j.b.row s (av _)).alloc _) H 1 1 [.slice P x Q] rfl rfl (kN _ _ _) (by simp[Value.oneCell']) (by omega) (by unfold maxLen;have:=j.d;omega) (by have:=j.d;omega) (by have:=j.a.y.size;have:=s.size;simp;omega) ?_;intro aO W3 aA aB aR;have aC:=(show Boxed H _ _ _ from(s.block _ j.b.box.lt).t j.b.box).alloc (.cells #[.slice P x Q] 65)|>.kept aB (j.b.box.not_row (dr rfl) j.b.row);have:=aC.C;have:=aC.frozen;obtain⟨a1,a2,rfl⟩:∃A F,aO= .slice A (C+1) F:=by
   obtain⟨h,ah⟩|⟨au,aw,ax,h,_⟩:=aA.2
   .omega
   exact⟨_,_,h⟩
  refine a _ _ ?_;clear a K
  try simp only[o]
  refine gV 5 (by kernel_rfl) (by simp only[u];rfl) fun K a=>?_;go_simp;refine a _ _ ?_;clear a K
  try simp only[o]
  refine DM (by kernel_rfl) ?_ _
  gi_wp2
  exact j.a.next j.b ap (by rw[R];omega) j.d s J aA aB aR
 case done=>
  rintro D ag W af y aE a;have⟨v,vs,N⟩:=y.Lk;have:=N.box.C;have:=y.da.C;have:=y.err.C;have:=y.da.frozen;have:=y.err.frozen;have j:=aD y N aE;clear y N aE;obtain⟨A,F,rfl⟩:∃A F,v= .slice A (Rl.eL n f) F:=by
   obtain⟨h,ah⟩|⟨au,aw,ax,h,_⟩:=j.b.row.2
   .exact⟨none,0,by rw[h,ah]⟩
   exact⟨_,_,h⟩
  gi_wp2
  have ai:=j.a.y;have aS:=j.a.len;have ag:∀b,b≠w.1.size+1+1->b≠w.1.size+1+1+1->((W.setCell (w+1+1:Nat) (.slice A (Rl.eL n f) F)).setCell (w.1.size+1+1+1:Nat) (.int .i64 0)).1[b]? =W.1[b]?:=fun b ad X=>
   (cP _ _ _ _ X).t (cP _ _ _ _ ad)
  have y:=(ag D (by rw[R]at af;omega) (by rw[R]at af;omega)).t a;have N:=((j.a.da.set (.slice A (Rl.eL n f) F)).other (show w.1.size+2≠w+1+1+1 by omega) (.int .i64 0)).C;have ad:=((j.a.err.other (show w.1.size+3≠w+1+1 by omega) (.slice A (Rl.eL n f) F)).set (.int .i64 0)).C;refine⟨by simp,.inl ⟨_,_,rfl,mj y,?_⟩⟩;refine⟨_,OS rfl _ _ (w+2) (w+3) A (Rl.eL n f) F 0 rfl rfl (iR N (eC _ D (.deferred none)) (fun r e=>by cases e;exact⟨_,y,rfl⟩)) (iR ad (eC _ D (.deferred none)) (fun r e=>by cases e;exact⟨_,y,rfl⟩)),?_⟩;have L:=aa.a;have M:=aa.b;rw[aq aS]at L M;rw[L,M];refine⟨_,rfl,j.b.lists j.a.new (by omega) (fun b z a3=>?_),?_⟩
  .have:=j.a.new b z;have X:b≠D:=fun e=>j.C (by rw[<-e];exact z);exact(dX X).t (ag b (by omega) (by omega))
  exact((ai.setCell (p:=(w+1+1:Nat)) (by show w.1.size<=w+1+1;omega) _).setCell (p:=(w+1+1+1:Nat)) (by show w.1.size<=w+1+1+1;omega) _).b (eC _ D _) (by have:=ai.size;simp[World.setCell];omega) (fun k e=>by cases e;rw[R]at af;omega)
 rintro D c C W af ae ⟨rfl,X,aE,aF,aH⟩ a;have j:=aY X aE aF aH;clear X aE aF aH
 gi_wp2
 have N:=j.a.C;have ad:=j.b.C;refine⟨by simp,.inl ⟨_,_,rfl,mj a,?_⟩⟩;refine⟨_,OS rfl _ _ (w+2) (w+3) none 0 0 5 rfl rfl (iR N (eC _ D (.deferred none)) (fun r e=>by cases e;exact⟨_,a,rfl⟩)) (iR ad (eC _ D (.deferred none)) (fun r e=>by cases e;exact⟨_,a,rfl⟩)),?_⟩;have L:=aa.a;have M:=aa.b;rw[O (by have:=j.D;omega)]at L M;rw[L,M];exact⟨_,rfl,⟨[],gI _ _ _ _,fun i x e=>by simp at e⟩,j.c.b (eC _ D _) j.c.size (fun k e=>by cases e;rw[R]at af;omega)⟩
end
end Go.Proofs.YtilhngjecfdgpaaGreatDoor
