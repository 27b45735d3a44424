/- seisintop.TopPSO: for every program that is handed in: where it is valid and has at most 3 threads and 8 instructions, partial store order as axioms and as a machine with a store buffer for each location have the same outcomes if there is no store fence, and with one the machine has no other outcomes than the model, as long as there are at most 3000 candidates and states: the law returns true and leaves its input as it was. The tables of math/bits and of check.needs are tied to the program's text. Part 9 of 9 of the proof of seisintop.TopPSO (theorem topPSO.card, at the end of the last part), its names and blanks shortened by a program to fit a claim's bound; it holds the texts TopPSO, one behind the other. -/
import Derived.Test.YtilhngjecfdgpaaGreatDoorTh
set_option linter.all false
set_option linter.defProp false
set_option linter.unusedVariables false
set_option linter.unusedSimpArgs false
set_option maxRecDepth 100000
set_option maxHeartbeats 16000000
namespace Go.Proofs.YtilhngjecfdgpaaGreatDoor
open Go.RowKit Go.Shelf Go.Proofs.Tryz
namespace topPSO
open Go.ChangeShapes Go.WideShapes Go.ChangeAt Go.Joins
def own:ownKnob prog.godebug=none:=by kernel_rfl
def QH{P}{x}{rest}{W}(h:laidMet P (x::rest) W):laidMet P rest W:=by
 obtain⟨ps,⟨g,t,cs,l,p,q,m,n,o,r,a,c⟩,e,f⟩:=h;subst c;exact⟨q,a,(List.nodup_append.1 e).2.1,fun b i j=>f b i (AI _ j)⟩
def G5:List Int:=Lib.deBruijn64tab.map (fun n:Nat=>(n:Int))
def Fa:List Int:=Lib.deBruijn32tab.map (fun n:Nat=>(n:Int))
def D6:List Int:=[0,35,38,29,7,7,15,32,92]
def adn:∀i,i<64->G5.getD i 0=(Lib.deBruijn64tab.getD i 0:Nat):=by decide+kernel
def acF:∀i,i<32->Fa.getD i 0=(Lib.deBruijn32tab.getD i 0:Nat):=by decide+kernel
def Yh:∀i,i<9->D6.getD i 0=(([0,35,38,29,7,7,15,32,92]:List Nat).getD i 0:Nat):=by decide+kernel
def Ot:prog.globalNamed "math/bits.deBruijn64tab" =some 2:=by kernel_rfl
def Pe:prog.globalNamed "math/bits.deBruijn32tab" =some 1:=by kernel_rfl
def gN:prog.globalNamed "seisin/check.needs" =some 0:=by kernel_rfl
def t64:(prog.globals[2]?).map (·.type)=some 332:=by kernel_rfl
def t32:(prog.globals[1]?).map (·.type)=some 331:=by kernel_rfl
def tN:(prog.globals[0]?).map (·.type)=some 306:=by kernel_rfl
def aa:prog.cellsOf 332=64:=by kernel_rfl
def aw:prog.cellsOf 331=32:=by kernel_rfl
def cN:prog.cellsOf 306=9:=by kernel_rfl
def agL{W}(h:laidMetH prog Rows.topPSORow.laid W):bh W:=by
 have c:=h;have f:Lib.TabIs prog W "math/bits.deBruijn32tab" .u8 Fa:=Mf Pe t32 underlying331 underlying5 Ff aw c;have e:=QH c;have g:Lib.TabIs prog W "math/bits.deBruijn64tab" .u8 G5:=Mf Ot t64 underlying332 underlying5 Ff aa e;have j:Lib.TabIs prog W "seisin/check.needs" .u8 D6:=Mf gN tN underlying306 underlying5 Ff cN (QH e);refine⟨fun i a=>?_,fun i a=>?_,fun i a=>?_⟩
 .have b:=g.C Ot i (by show i<G5.length;exact a);rw[adn i a]at b;exact b
 .have b:=f.C Pe i (by show i<Fa.length;exact a);rw[acF i a]at b;exact b
 have b:=j.C gN i (by show i<D6.length;exact a);rw[Yh i a]at b;exact b
def KM(a:List Int):Obj->Obj
 | .cells _ t frozen=> .cells (a.map (Value.int .u8)).toArray t frozen
 |o=>o
noncomputable def LW(a:Os):World:=
 {World.holding prog a ⟨#[],#[],[]⟩with heap:=(((World.holding prog a ⟨#[],#[],[]⟩).1.modify 2 (KM G5)).modify 1 (KM Fa)).modify 0 (KM D6)}
def ady(c:Type)(aB:TypeId×Value->c)(W:World)(base:Nat)(args:Array Value)(u w:List (DataW c))(y:List MemPlace)
 (f:∀(j:Nat) t v,f3.params[j]? =some t->args[j]? =some v->Value.okWide prog W .any base t v)
 (i:DataW.Whole aB prog f3.params.toList Rows.topPSOSpec.vars false W args.toList u w y)(z:laidMetH prog Rows.topPSORow.laid W):
 Calls prog 3 args W fun e W'=>∃v,e= .returned v/\Rows.topPSOSpec.post aB prog f3 false true false false W args v W':=by
 have a:=agL z;have b:=i;obtain⟨p,q,l,A,rfl,N,O⟩:=i;have m:=l;rw[params3]at m f;obtain⟨n,P,d0,Q,R,T,X,rfl,rfl,o,C⟩:=trodAll_cons m;obtain⟨rfl,rfl,rfl⟩:=trodAll_nil C;obtain rfl:args=#[n]:=by cases args;simp_all
 obtain⟨rfl,rfl⟩:=trodVars_none A;have E:=o;obtain⟨g,s,rfl,F⟩:=Yb (f 0 29 n rfl rfl) o;clear l;simp only[kL,gG]at b;have H:=b.lt;refine(UC g s W F a fun I J=>ag6 I (a.Z J a.lt)).m fun e W' ⟨L,r⟩=>?_;subst L;exact⟨_,rfl,_,_,_,[],_,[],b,trodAll_cons_mk (shut_bool underlying4 _) trodAll_mk0,
  trodAll_cons_mk (Below.trod (by kernel_rfl) (by kernel_rfl) (mf (by kernel_rfl)) E r (fun x M=>H x (by simp[M]))) trodAll_mk0,rfl,
  r.frame _,fun h=>by cases h⟩
def Hk:Array Value:=#[.string .empty,nS,nS,nS,.int .u8 0,.int .u8 0,.int .u8 0,.int .u8 0,.int .u8 0,nS]
def abk(os):laidMet prog Rows.topPSORow.laid ((LW os).forCall (fun _ _=>0) ⟨#[],#[Hk],[]⟩).memory:=
 laidMet_of_run' 8 (by kernel_rfl) (by kernel_rfl)
def reads(os){H}(aB:TypeId×Value->H):∃a,DataW.whole aB prog ((LW os).forCall (fun _ _=>0) ⟨#[],#[Hk],[]⟩).memory f3.params.toList Rows.topPSOSpec.vars false #[Value.agg Hk].toList 8=some ([.agg [.lit (.string []),.nil,.nil,.nil,.lit (.int .u8 0),.agg [.lit (.int .u8 0),.lit (.int .u8 0),.lit (.int .u8 0),.lit (.int .u8 0),.nil]]],[],a):=
 ⟨[],by kernel_rfl⟩
def lifted(os)(a:os.Started)(H)(aB:TypeId×Value->H)(F):
 ReturnsInHanded {} checked os 3 .any ((OpenSpec.ofChange Rows.topPSOSpec).preRow aB prog f3 Rows.topPSORow.domain false Rows.topPSORow.laid) (((OpenSpec.ofChange Rows.topPSOSpec).at F).post aB prog f3 false true false false):=by
 have⟨l,b⟩:=reads os aB;refine returnsInHanded_of_row (C:=checked) (s:=OpenSpec.ofChange Rows.topPSOSpec) own a (by kernel_rfl) func3
  (witness_row_at (enc:=aB) (C:=checked) false (LW os) #[Hk] rfl (by kernel_rfl) (by kernel_rfl) (by kernel_rfl)
    (OpenSpec.preRow_of_cond 8 b (by kernel_rfl) (fun k c=>by cases c) (by kernel_rfl) (abk os))) ?_
 intro W base args e f g h i _ _ _ j _ _;exact ady H aB W base args e f g h i j
def said:Rows.TopPSOSaid:=
 OpenClaim.holds_of_cond 3 f3 rfl rfl rfl rfl rfl rfl rfl ⟨rfl,rfl,rfl,rfl,rfl⟩ rfl rfl rfl rfl rfl (by kernel_rfl) func3 (by kernel_rfl)
  (mf (by kernel_rfl)) (by unfold Func.isWrapper;first|(rw[aq (by decide+kernel)];kernel_rfl)|(rw[O (by decide+kernel)];exact⟨rfl,rfl⟩))
  (fun a b c aB _ e=>by rw[OpenClaim.pre_eq_preRow];exact lifted a b c aB e)
def plain(f:FuncId)(fn:Func)(b:Tryz.pinned.checked.prog.funcNamed "seisin/seisintop.TopPSO" =some f)(c:Tryz.pinned.checked.prog.funcs[f]? =some fn):
 false=Tryz.pinned.checked.prog.looks []/\∀(j:Nat) t,fn.params[j]? =some t->Tryz.pinned.checked.prog.wantsStandIn t=false:=by
 obtain rfl:f=3:=aR ((show prog.funcNamed "seisin/seisintop.TopPSO" =some 3 by kernel_rfl).s.t b)|>.symm;obtain rfl:fn=f3:=(aR (func3.s.t c)).s;refine⟨by kernel_rfl,fun j t a=>?_⟩;rw[params3]at a;have e:t∈[29]:=by first|(simpa using Up a)|(have h:=Up a;simp at h;simp[h])
 have g:([29].all fun u=>!prog.wantsStandIn u)=true:=by kernel_rfl
 exact(show prog.wantsStandIn t=false by simpa using mw.1 g t e)
theorem card:Rows.TopPSOCardSaid:=
 Claim7.holds_tied_plain_at .later [] _ _ _ _ said (fun _ h=>by cases h) (by kernel_rfl) (fun _ h=>by cases h) topPSO_row_tie rfl ⟨rfl,rfl⟩ (by kernel_rfl) rfl plain (by kernel_rfl)
end topPSO
end Go.Proofs.YtilhngjecfdgpaaGreatDoor
