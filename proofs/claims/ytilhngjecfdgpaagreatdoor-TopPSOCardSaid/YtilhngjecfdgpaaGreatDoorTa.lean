/- Part 1 of 9 of the proof of seisintop.TopPSO (theorem topPSO.card, at the end of the last part), its names and blanks shortened by a program to fit a claim's bound; it holds the texts Aa Bs Bv Bx Bz Rl Rp Rt Sa Ta Rg Ma Rf Mb Mc Md Na Nb Nc Nd Ne Nf Ng Nh Ro Nn No Sb Sc Tb Tc Fa Ea, one behind the other. -/
import Derived.ArgAppend
import Derived.Below
import Derived.BigQuiet
import Derived.Calls
import Derived.CallsIn
import Derived.ChangeKeysEq
import Derived.Deep.AppendLies
import Derived.Deep.CutBlock
import Derived.Deep.DeepAppendRoom
import Derived.Deep.DeepCutAuto
import Derived.Deep.DeepHandedRow
import Derived.Deep.MidRow
import Derived.Deep.Quiet
import Derived.Deep.QuietTactic
import Derived.Deep.RegionHeld
import Derived.Deep.RegionHeld3
import Derived.Deep.Slices
import Derived.Deep.WholeRow
import Derived.DeepKeys4
import Derived.Great.BuildSlice
import Derived.Ground.NamesProg
import Derived.Ground.SlgnProg
import Derived.KernelRfl
import Derived.Laws.AppendOwnNone
import Derived.Laws.Bits64
import Derived.Laws.Entries
import Derived.Laws.IdiomCopy
import Derived.Laws.MakeOwn
import Derived.Laws.ResultCell
import Derived.Laws.StructEq
import Derived.Lib.Hide
import Derived.Lib.LaidTab
import Derived.Lib.OwnKind
import Derived.Lib.QuietBelow
import Derived.Lib.QuietBelowIn
import Derived.Lib.SlBuf
import Derived.Lib.SliceRun
import Derived.Lib.SmallJoins
import Derived.Lib.TrailingZeros
import Derived.LoopIn
import Derived.LoopNIn
import Derived.Maps.AppendAt
import Derived.Maps.Keyed
import Derived.Maps.OwnSet
import Derived.Maps.Views
import Derived.OneCell
import Derived.OpenShut
import Derived.OrdersHeld
import Derived.OrdersIn
import Derived.OwnWalk
import Derived.OwnWalkIn
import Derived.ProofKit
import Derived.RangeFuncBound
import Derived.RangeFuncCalls
import Derived.RangeFuncLeaves
import Derived.RangeFuncNested
import Derived.RangeFuncRecord
import Derived.RowKit
import Derived.Shelf.Abstract
import Derived.Shelf.Lay
import Derived.Shelf.RegionOpen
import Derived.Shelf.SlGeneric
import Derived.Shelf.SlSortCmp.NoneTotal
import Derived.Shelf.SlicesE.Compact
import Derived.Shelf.Small.Bits
import Derived.Shelf.Spec.SlicesGrow
import Derived.Sort.AssemblyPlain
import Derived.Sort.BigQuietIn
import Derived.Sort.CutIn
import Derived.Sort.LoopGhostIn
import Derived.Sort.LotA
import Derived.Sort.Walk11
import Derived.Sort.Walk13
import Derived.Sort.Walk7
import Derived.Sort.WalkA
import Derived.Sort.WalkA6
import Derived.Sort.WalkB3
import Derived.Sort.WalkC4
import Derived.StillTail
import Derived.StillTailTactics
import Derived.Stop.RegionWithIn
import Derived.TacticsInMore
import Derived.Test.YtilhngjecfdgpaaGreatDoorCards
import Derived.Test.YtilhngjecfdgpaaGreatDoorChecked
import Derived.Test.YtilhngjecfdgpaaGreatDoorTie
import Derived.WalkKit
import Derived.WalkLawsBesides
import Derived.WalkSpells
set_option linter.all false
set_option linter.defProp false
set_option linter.unusedVariables false
set_option linter.unusedSimpArgs false
set_option maxRecDepth 100000
set_option maxHeartbeats 16000000
def List.IsPrefix.t:=@List.IsPrefix.trans
def Eq.t:=@Eq.trans
def Iff.t:=@Iff.trans
def HEq.t:=@HEq.trans
def Go.RowKit.Below.t:=@Go.RowKit.Below.trans
def Go.World.grownBy.t:=@Go.World.grownBy.trans
def Go.World.Extends.t:=@Go.World.Extends.trans
def Go.Lib.OthersKept.t:=@Go.Lib.OthersKept.trans
def Go.KeepsFrom.t:=@Go.KeepsFrom.trans
def Go.KeepsOthers.t:=@Go.KeepsOthers.trans
def Go.KeepsWalks.t:=@Go.KeepsWalks.trans
def Go.Steps.t:=@Go.Steps.trans
def Go.StepsIn.t:=@Go.StepsIn.trans
def Go.World.mapTurned.t:=@Go.World.mapTurned.trans
def And.s:=@And.symm
def Eq.s:=@Eq.symm
def Iff.s:=@Iff.symm
def Ne.s:=@Ne.symm
def HEq.s:=@HEq.symm
def Go.YieldAt.m:=@Go.YieldAt.mono
def Go.World.ownsMap.m:=@Go.World.ownsMap.mono
def Go.RoundIn.m:=@Go.RoundIn.mono
def Go.CallsIn.m:=@Go.CallsIn.mono
def Go.Calls.m:=@Go.Calls.mono
def Go.StepsIn.m:=@Go.StepsIn.mono
def Go.RowKit.Below.m:=@Go.RowKit.Below.mono
def Go.Brisk.m:=@Go.Brisk.mono
def Go.CallsD.m:=@Go.CallsD.mono
def Go.CallsDIn.m:=@Go.CallsDIn.mono
def Go.Race.m:=@Go.Race.mono
def Go.ReturnsInOpen.m:=@Go.ReturnsInOpen.mono
def Go.Rows.m:=@Go.Rows.mono
def Go.RowsIn.m:=@Go.RowsIn.mono
def Go.Lib.Buf.Z:=@Go.Lib.Buf.below
def Go.RowKit.Below.C:=@Go.RowKit.Below.cell
def Go.World.grownBy.C:=@Go.World.grownBy.cell
def Go.World.Extends.C:=@Go.World.Extends.cell
def Go.Boxed.C:=@Go.Boxed.cell
def Go.Lib.TabIs.C:=@Go.Lib.TabIs.cell
def Go.World.keptBut.C:=@Go.World.keptBut.cell
def Go.RowKit.Below.b:=@Go.RowKit.Below.grown
def Go.World.Extends.b:=@Go.World.Extends.grown
def Go.Lib.OthersKept.b:=@Go.Lib.OthersKept.grown
def Go.World.mapTurned.b:=@Go.World.mapTurned.grown
def Go.Boxed.K:=@Go.Boxed.kept
def Go.World.ownsRow.K:=@Go.World.ownsRow.kept
def Go.World.ownsMap.K:=@Go.World.ownsMap.kept
def Go.World.Extends.K:=@Go.World.Extends.kept
def Go.World.ownsRowF.K:=@Go.World.ownsRowF.kept
def Go.World.ranges.K:=@Go.World.ranges.kept
def Go.RowKit.Hid.y:=@Go.RowKit.Hid.out
def Go.Aside.y:=@Go.Aside.out
def Go.Shut.y:=@Go.Shut.out
namespace Go.RowKit.Hid
variable{p0 p1 p2 p3 p4 p5 p6 p7 p8 p9 p10 p11 p12 p13 p14 p15 p16 p17 p18 p19 p20:Prop}
def a(x:Hid (p0/\p1)):p0:=x.1
def b(x:Hid (p0/\p1/\p2)):p1:=a x.2
def B(x:Hid (p0/\p1)):p1:=x.2
def c(x:Hid (p0/\p1/\p2/\p3)):p2:=b x.2
def C(x:Hid (p0/\p1/\p2)):p2:=B x.2
def d(x:Hid (p0/\p1/\p2/\p3/\p4)):p3:=c x.2
def D(x:Hid (p0/\p1/\p2/\p3)):p3:=C x.2
def e(x:Hid (p0/\p1/\p2/\p3/\p4/\p5)):p4:=d x.2
def E(x:Hid (p0/\p1/\p2/\p3/\p4)):p4:=D x.2
def f(x:Hid (p0/\p1/\p2/\p3/\p4/\p5/\p6)):p5:=e x.2
def F(x:Hid (p0/\p1/\p2/\p3/\p4/\p5)):p5:=E x.2
def g(x:Hid (p0/\p1/\p2/\p3/\p4/\p5/\p6/\p7)):p6:=f x.2
def G(x:Hid (p0/\p1/\p2/\p3/\p4/\p5/\p6)):p6:=F x.2
def h(x:Hid (p0/\p1/\p2/\p3/\p4/\p5/\p6/\p7/\p8)):p7:=g x.2
def H(x:Hid (p0/\p1/\p2/\p3/\p4/\p5/\p6/\p7)):p7:=G x.2
def i(x:Hid (p0/\p1/\p2/\p3/\p4/\p5/\p6/\p7/\p8/\p9)):p8:=h x.2
def I(x:Hid (p0/\p1/\p2/\p3/\p4/\p5/\p6/\p7/\p8)):p8:=H x.2
def j(x:Hid (p0/\p1/\p2/\p3/\p4/\p5/\p6/\p7/\p8/\p9/\p10)):p9:=i x.2
def J(x:Hid (p0/\p1/\p2/\p3/\p4/\p5/\p6/\p7/\p8/\p9)):p9:=I x.2
def k(x:Hid (p0/\p1/\p2/\p3/\p4/\p5/\p6/\p7/\p8/\p9/\p10/\p11)):p10:=j x.2
def K(x:Hid (p0/\p1/\p2/\p3/\p4/\p5/\p6/\p7/\p8/\p9/\p10)):p10:=J x.2
def l(x:Hid (p0/\p1/\p2/\p3/\p4/\p5/\p6/\p7/\p8/\p9/\p10/\p11/\p12)):p11:=k x.2
def L(x:Hid (p0/\p1/\p2/\p3/\p4/\p5/\p6/\p7/\p8/\p9/\p10/\p11)):p11:=K x.2
def m(x:Hid (p0/\p1/\p2/\p3/\p4/\p5/\p6/\p7/\p8/\p9/\p10/\p11/\p12/\p13)):p12:=l x.2
def M(x:Hid (p0/\p1/\p2/\p3/\p4/\p5/\p6/\p7/\p8/\p9/\p10/\p11/\p12)):p12:=L x.2
def n(x:Hid (p0/\p1/\p2/\p3/\p4/\p5/\p6/\p7/\p8/\p9/\p10/\p11/\p12/\p13/\p14)):p13:=m x.2
def N(x:Hid (p0/\p1/\p2/\p3/\p4/\p5/\p6/\p7/\p8/\p9/\p10/\p11/\p12/\p13)):p13:=M x.2
def o(x:Hid (p0/\p1/\p2/\p3/\p4/\p5/\p6/\p7/\p8/\p9/\p10/\p11/\p12/\p13/\p14/\p15)):p14:=n x.2
def O(x:Hid (p0/\p1/\p2/\p3/\p4/\p5/\p6/\p7/\p8/\p9/\p10/\p11/\p12/\p13/\p14)):p14:=N x.2
def p(x:Hid (p0/\p1/\p2/\p3/\p4/\p5/\p6/\p7/\p8/\p9/\p10/\p11/\p12/\p13/\p14/\p15/\p16)):p15:=o x.2
def P(x:Hid (p0/\p1/\p2/\p3/\p4/\p5/\p6/\p7/\p8/\p9/\p10/\p11/\p12/\p13/\p14/\p15)):p15:=O x.2
def q(x:Hid (p0/\p1/\p2/\p3/\p4/\p5/\p6/\p7/\p8/\p9/\p10/\p11/\p12/\p13/\p14/\p15/\p16/\p17)):p16:=p x.2
def Q(x:Hid (p0/\p1/\p2/\p3/\p4/\p5/\p6/\p7/\p8/\p9/\p10/\p11/\p12/\p13/\p14/\p15/\p16)):p16:=P x.2
def r(x:Hid (p0/\p1/\p2/\p3/\p4/\p5/\p6/\p7/\p8/\p9/\p10/\p11/\p12/\p13/\p14/\p15/\p16/\p17/\p18)):p17:=q x.2
def R(x:Hid (p0/\p1/\p2/\p3/\p4/\p5/\p6/\p7/\p8/\p9/\p10/\p11/\p12/\p13/\p14/\p15/\p16/\p17)):p17:=Q x.2
def s(x:Hid (p0/\p1/\p2/\p3/\p4/\p5/\p6/\p7/\p8/\p9/\p10/\p11/\p12/\p13/\p14/\p15/\p16/\p17/\p18/\p19)):p18:=r x.2
def S(x:Hid (p0/\p1/\p2/\p3/\p4/\p5/\p6/\p7/\p8/\p9/\p10/\p11/\p12/\p13/\p14/\p15/\p16/\p17/\p18)):p18:=R x.2
def t(x:Hid (p0/\p1/\p2/\p3/\p4/\p5/\p6/\p7/\p8/\p9/\p10/\p11/\p12/\p13/\p14/\p15/\p16/\p17/\p18/\p19/\p20)):p19:=s x.2
def T(x:Hid (p0/\p1/\p2/\p3/\p4/\p5/\p6/\p7/\p8/\p9/\p10/\p11/\p12/\p13/\p14/\p15/\p16/\p17/\p18/\p19)):p19:=S x.2
end Go.RowKit.Hid
namespace Go
open RowKit
section
variable{p0 p1 p2 p3 p4 p5 p6 p7 p8 p9 p10 p11 p12 p13 p14 p15 p16 p17 p18 p19:Prop}(h0:p0)(h1:p1)(h2:p2)(h3:p3)(h4:p4)(h5:p5)(h6:p6)(h7:p7)(h8:p8)(h9:p9)(h10:p10)(h11:p11)(h12:p12)(h13:p13)(h14:p14)(h15:p15)(h16:p16)(h17:p17)(h18:p18)(h19:p19)
def aA:Hid (p0/\p1):=⟨h0,h1⟩
def aD:Hid (p0/\p1/\p2):=⟨h0,h1,h2⟩
def aY:Hid (p0/\p1/\p2/\p3):=⟨h0,h1,h2,h3⟩
def bM:Hid (p0/\p1/\p2/\p3/\p4):=⟨h0,h1,h2,h3,h4⟩
def dC:Hid (p0/\p1/\p2/\p3/\p4/\p5):=⟨h0,h1,h2,h3,h4,h5⟩
def dH:Hid (p0/\p1/\p2/\p3/\p4/\p5/\p6):=⟨h0,h1,h2,h3,h4,h5,h6⟩
def jR:Hid (p0/\p1/\p2/\p3/\p4/\p5/\p6/\p7):=⟨h0,h1,h2,h3,h4,h5,h6,h7⟩
def gQ:Hid (p0/\p1/\p2/\p3/\p4/\p5/\p6/\p7/\p8):=⟨h0,h1,h2,h3,h4,h5,h6,h7,h8⟩
def pn:Hid (p0/\p1/\p2/\p3/\p4/\p5/\p6/\p7/\p8/\p9):=⟨h0,h1,h2,h3,h4,h5,h6,h7,h8,h9⟩
def yn:Hid (p0/\p1/\p2/\p3/\p4/\p5/\p6/\p7/\p8/\p9/\p10):=⟨h0,h1,h2,h3,h4,h5,h6,h7,h8,h9,h10⟩
def Cc:Hid (p0/\p1/\p2/\p3/\p4/\p5/\p6/\p7/\p8/\p9/\p10/\p11):=⟨h0,h1,h2,h3,h4,h5,h6,h7,h8,h9,h10,h11⟩
def J0:Hid (p0/\p1/\p2/\p3/\p4/\p5/\p6/\p7/\p8/\p9/\p10/\p11/\p12):=⟨h0,h1,h2,h3,h4,h5,h6,h7,h8,h9,h10,h11,h12⟩
def acB:Hid (p0/\p1/\p2/\p3/\p4/\p5/\p6/\p7/\p8/\p9/\p10/\p11/\p12/\p13):=⟨h0,h1,h2,h3,h4,h5,h6,h7,h8,h9,h10,h11,h12,h13⟩
def P9:Hid (p0/\p1/\p2/\p3/\p4/\p5/\p6/\p7/\p8/\p9/\p10/\p11/\p12/\p13/\p14):=⟨h0,h1,h2,h3,h4,h5,h6,h7,h8,h9,h10,h11,h12,h13,h14⟩
def afn:Hid (p0/\p1/\p2/\p3/\p4/\p5/\p6/\p7/\p8/\p9/\p10/\p11/\p12/\p13/\p14/\p15):=⟨h0,h1,h2,h3,h4,h5,h6,h7,h8,h9,h10,h11,h12,h13,h14,h15⟩
def ag2:Hid (p0/\p1/\p2/\p3/\p4/\p5/\p6/\p7/\p8/\p9/\p10/\p11/\p12/\p13/\p14/\p15/\p16/\p17/\p18/\p19):=⟨h0,h1,h2,h3,h4,h5,h6,h7,h8,h9,h10,h11,h12,h13,h14,h15,h16,h17,h18,h19⟩
end
theorem eX{b:Sort _}(a:b):∃x,x=a:=⟨a,rfl⟩
theorem u:(∀{b:Type}(xs:List b)(i:Nat),xs.toArray[i]? =xs[i]?)/\(∀{b:Type}(a:b) l(i:Nat),(a::l)[i+1]? =l[i]?)/\∀{b:Type}(a:b) l,(a::l)[0]? =some a:=⟨fun _ _=>by simp,fun _ _ _=>rfl,fun _ _=>rfl⟩
theorem o:(∀(a:Act) d v,a.put d v=match d with|some t=>{a with tmps:=a.tmps.setIfInBounds t v}|none=>a)/\(∀{b:Type}(l:List b)(i:Nat) a,l.toArray.setIfInBounds i a=(l.set i a).toArray)/\(∀{b:Type}(x:b) xs a,(x::xs).set 0 a=a::xs)/\∀{b:Type}(x:b) xs(i:Nat) a,(x::xs).set (i+1) a=x::xs.set i a:=⟨fun _ _ _=>rfl,fun _ _ _=>by simp,fun _ _ _=>rfl,fun _ _ _ _=>rfl⟩
theorem st1:(∀{b:Type}(a:b) xs(i:Nat),(a::xs).take (i+1)=a::xs.take i)/\(∀{b:Type}(l:List b),l.take 0=[])/\(∀{b:Type}(x:b) xs(i:Nat),(x::xs).drop (i+1)=xs.drop i)/\∀{b:Type}(l:List b),l.drop 0=l:=⟨fun _ _ _=>rfl,fun _=>rfl,fun _ _ _=>rfl,fun _=>rfl⟩
instance:Coe Nat Addr:=⟨fun b=>⟨b,0,none⟩⟩
instance:Coe (Array Value) Value:=⟨.agg⟩
instance:Coe Bool Value:=⟨.bool⟩
instance:Coe Int Value:=⟨.int .i64⟩
instance:Coe World Nat:=⟨fun w=>w.heap.size⟩
instance {b:Type}:CoeOut (List b) Nat:=⟨List.length⟩
instance:Coe UInt8 Nat:=⟨UInt8.toNat⟩
instance:Coe Value Ending:=⟨.returned⟩
theorem dr{p:Prop}[Decidable p](h:decide p=true):p:=of_decide_eq_true h
theorem ba(w:World)(o:Obj):Below w.heap.size w (w.alloc o):=(Below.refl _ w).alloc (Nat.le_refl _) o
theorem sn{c:Type}{a b:c}(h:a≠b):some a≠some b:=fun e=>h (Option.some.inj e)
theorem cs{c:Type}{a b:c}(h:a=b):some a=some b:=h▸rfl
abbrev nS:Value:= .slice none 0 0
abbrev Rs(v:Value)(w:World):Ending->World->Prop:=fun e b=>e= .returned v/\Below w.heap.size w b
theorem H{p:Prop}(h:p):Hid p:=h
theorem Calls.st{P:Program}{f:FuncId}{r:Array Value}{w:World}{v:Value}{i:World->Prop}{K:Ending->World->Prop}(h:Calls P f r w fun e g=>e= .returned v/\i g)(k:∀g,i g->K (.returned v) g):Calls P f r w K:=h.m fun _ _ ⟨a,b⟩=>a▸k _ b
theorem CallsIn.st{N:Fence}{n:Nat}{P:Program}{f:FuncId}{r:Array Value}{w:World}{v:Value}{i:World->Prop}{K:Ending->World->Prop}(h:CallsIn N n P f r w fun e g=>e= .returned v/\i g)(k:∀g,i g->K (.returned v) g):CallsIn N n P f r w K:=h.m fun _ _ ⟨a,b⟩=>a▸k _ b
section
variable{N:Fence}{n:Nat}{P:Program}{md:Region.Mode}{ops:Array Oper}{Q:Exit->Act->World->Prop}{u:Nat}{l:Array Bool}{a:Act}{w:World}{o:Oper}
theorem gV(i:Nat)(b:Region.ready md ops l=[i])(c:ops[i]? =some o)(h:∀K:Act->World->Prop,(∀a w,wpAnyIn N n P md ops Q u (l.setIfInBounds i true) a w->K a w)->if Region.wanted o (yielded ops a.tmps)=true then Oper.wpIn N n P o a w K Q else(∀f,o.about P w a.eval=some f->N.fn f)/\K (a.put o.dst undef) w):wpAnyIn N n P md ops Q (u+1) l a w:=wpAnyIn_ready b (by simp) (.cons c h .nil)
theorem dY{S:World->Prop}(i:Nat)(v:Value)(b:ops[i]? =some o)(h:(Region.noSelect ops&&Region.free md ops l i&&(Region.ready md ops l).contains i)=true)(e:∀c a w,Q (.panic c) (a.put o.dst v) w->Q (.panic c) a w)(f:YieldsIf P ops S o v a)(g:S w)(k:wpAnyH P md ops Q S u (l.setIfInBounds i true) (a.put o.dst v) w):wpAnyH P md ops Q S (u+1) l a w:=by simp only[Bool.and_eq_true]at h;exact wpAnyH_take b h.1.1 h.1.2 h.2 e f g k
theorem jq(i:Nat)(v:Value)(b:ops[i]? =some o)(h:(Region.noSelect ops&&Region.free md ops l i&&(Region.ready md ops l).contains i)=true)(e:∀c a w,Q (.panic c) (a.put o.dst v) w->Q (.panic c) a w)(f:YieldsFenced P ops o v a)(g:N.round=none)(k:wpAnyIn N n P md ops Q u (l.setIfInBounds i true) (a.put o.dst v) w):wpAnyIn N n P md ops Q (u+1) l a w:=by simp only[Bool.and_eq_true]at h;exact wpAnyIn_take g b h.1.1 h.1.2 h.2 e f k
end
section
variable{P:Program}{l:List Oper}{a:Act}{w:World}
theorem bV{i}{Q:Exit->Act->World->Prop}(h:(P.follows .mixedOrders&&Region.lexB .any l.toArray)=true)(k:wpQuiet P l.toArray (fun b=>(∃p:Regrown,b=Sort.grow (redrawn w p.d) p.os)) (fun c=>∀b,(∃p:Regrown,b=Sort.grow (redrawn w p.d) p.os)->Q .normal c b) l a):(Code.region i l.toArray true).wp P Q a w:=by rw[Bool.and_eq_true]at h;exact wp_region_quiet_below h.1 h.2 k
variable{o:Array Oper}{D:World->Prop}{K:Act->World->Prop}
theorem qn(h:∀W,Below w.heap.size w W->K a W):wpQuiet P o D (fun c=>∀b,(∃p:Regrown,b=Sort.grow (redrawn w p.d) p.os)->K c b) [] a:=fun W e=>h W (by obtain⟨⟨d,_⟩,rfl⟩:=e;exact below_regrown _ _ _)
theorem qh(h:∀W,Hid (Below w.heap.size w W)->K a W):wpQuiet P o D (fun e=>∀c,(∃p:Regrown,c=Sort.grow (redrawn w p.d) p.os)->K e c) [] a:=qn fun W b=>h W (H b)
end
def aq:=@if_pos
def O:=@if_neg
def av:=@Nat.le_refl
def aI:=@List.getElem?_eq_getElem
def aO:=@Nat.le_trans
def aQ:=@Nat.zero_le
def aP:=@Go.RowKit.Below.refl
def aR:=@Option.some.inj
def aW:=@Nat.lt_of_lt_of_le
def aX:=@Go.Calls.regrown_of
def bj:=@List.getD_eq_getElem?_getD
def bK:=@Go.bodyPost_ret
def bO:=@Go.cell_regrown
def bL:=@List.getElem?_eq_some_iff
def bX:=@List.mem_map
def cg:=@congrArg
def cH:=@Bool.and_eq_true
def cB:=@List.mem_of_getElem?
def cK:=@Nat.zero_add
def cP:=@Go.RowKit.Below.heap_setCell
def cV:=@List.length_map
def cT:=@Go.World.size_alloc
def dc:=@List.length_append
def dh:=@Go.callsIn_wide
def dE:=@Go.Boxed.new
def dG:=@List.getElem?_map
def dX:=@Go.World.putObj_heap_other
def ez:=@Nat.sub_zero
def eC:=@Go.grownBy_putObj'
def eD:=@Go.Sem.run_bind
def eQ:=@Go.info_parts
def eV:=@Go.Addr.add_mid
def fg:=@beq_iff_eq
def eY:=@Go.Result.andThen_ok
def eZ:=@Go.Sem.run_pure
def fB:=@decide_eq_true
def fI:=@List.mem_cons
def fF:=@Go.RowKit.Below.heap_alloc
def fV:=@Go.Calls.quiet_of_same
def gp:=@Go.World.drewN_drewN
def fS:=@List.mem_range
def gG:=@List.nil_append
def gw:=@Go.IntWalk.i64_in
def gI:=@Go.World.ownsRow_nil
def gH:=@Go.Proofs.enters_of
def gS:=@Array.getElem?_eq_some_iff
def gL:=@List.length_cons
def iI:=@Go.wpList_load_mid
def iJ:=@List.cons_append
def gX:=@decide_eq_false
def iD:=@List.getElem_of_mem
def iP:=@List.length_nil
def iU:=@BitVec.getLsbD_or
def iR:=@Go.cell_kept
def jd:=@List.take_add_one
def jO:=@Go.below_regrown
def jh:=@List.range_succ
def ju:=@Go.results_none
def jC:=@List.size_toArray
def jD:=@Nat.not_lt_zero
def jF:=@decide_eq_true_iff
def jW:=@Bool.or_eq_true
def jZ:=@Go.World.alloc_heap_new
def j8:=@Array.replicate_succ
def j5:=@Array.replicate_zero
def kh:=@List.push_toArray
def kj:=@List.append_toArray
def ki:=@Classical.byContradiction
def js:=@dif_pos
def kG:=@Bool.eq_iff_iff
def kL:=@List.append_nil
def kx:=@List.map_append
def kB:=@List.getElem?_append_right
def mf:=@of_decide_eq_true
def kZ:=@List.append_assoc
def kU:=@List.mem_cons_of_mem
def lh:=@List.mem_singleton
def kQ:=@Bool.true_and
def kT:=@Go.AllReadyIn.cons
def lU:=@List.pairwise_cons
def lD:=@decide_eq_true_eq
def lF:=@BitVec.getLsbD_and
def lX:=@List.setIfInBounds_toArray
def mm:=@List.set_cons_zero
def lP:=@List.set_cons_succ
def kN:=@Go.cell_one_new
def mj:=@Go.run_takeDeferred
def mg:=@List.mem_append
def lE:=@List.getElem?_append_left
def lv:=@Go.AllReadyH.cons
def lZ:=@Nat.lt_trans
def mw:=@List.all_eq_true
def mq:=@Nat.add_assoc
def lN:=@Go.cell_of_row
def nk:=@Go.IntKind.wrap_i64
def mR:=@List.mem_flatMap
def nh:=@Nat.lt_of_le_of_lt
def mS:=@Go.wpAnyH_ready
def mE:=@Go.AllReadyH.nil
def nu:=@Nat.le_of_lt
def nE:=@List.mem_filter
def oh:=@List.filter_append
def od:=@List.getElem?_eq_none
def nJ:=@Nat.le_of_eq
def n9:=@Nat.lt_irrefl
def nY:=@Iff.rfl
def nR:=@List.map_cons
def oI:=@List.flatMap_append
def oG:=@Go.Oper.semAt_plain
def nH:=@List.take_length
def oM:=@List.getElem_mem
def pN:=@List.map_map
def pw:=@UInt8.toNat_ofNat'
def oU:=@Go.World.block_lt_of_cell?
def qu:=@Go.run_loadVar_mid
def qC:=@Go.results_cell_row
def qJ:=@Go.wpList_append_own
def qx:=@List.length_take
def qd:=@beq_eq_false_iff_ne
def qz:=@List.length_singleton
def qN:=@Nat.lt_or_ge
def pR:=@List.map_nil
def pU:=@List.getElem?_range
def pM:=@List.length_range
def rM:=@Go.callsIn_of_wp
def qW:=@Nat.lt_succ_self
def uy:=@Go.wpAnyIn_ready
def sA:=@BitVec.eq_of_toNat_eq
def sf:=@Int.toNat_natCast
def rP:=@List.mem_append_left
def sH:=@Option.getD_some
def sl:=@List.take_of_length_le
def rX:=@List.mem_cons_self
def rT:=@List.mem_of_getLast?
def uc:=@Go.mem_ready
def tR:=@UInt8.toNat_inj
def uz:=@List.flatMap_cons
def sZ:=@Go.callsIn_of_wp_marks
def ui:=@Go.Proofs.putRow_drewN
def ux:=@Go.Proofs.drewN_world
def tg:=@Go.RowKit.cell?_setCell_some
def tQ:=@Go.Proofs.swap_worldC
def tF:=@Go.Proofs.scanDown_end
def sV:=@List.not_mem_nil
def tP:=@Nat.le_succ
def tL:=@dif_neg
def tD:=@Go.AllReadyIn.nil
def uT:=@Go.results_tmp
def vY:=@Nat.add_zero
def uW:=@Go.World.cell?_of_block
def vW:=@Go.run_loadVar_row
def uB:=@Go.AllReady.cons
def x8:=@Bool.not_eq_true'
def xi:=@BitVec.testBit_toNat
def ya:=@Go.IntKind.wrap_u64
def tE:=@Nat.add_sub_cancel_left
def yA:=@Go.World.cell?_alloc_old
def xp:=@Nat.ne_of_lt
def xr:=@Go.wpListIn_plain
def yu:=@List.take_append_drop
def yG:=@of_decide_eq_false
def wM:=@List.length_filter_le
def xq:=@Nat.mul_le_mul_right
def x7:=@Nat.mul_comm
def yH:=@List.contains_iff_mem
def xu:=@Bool.eq_false_iff
def xE:=@List.getElem?_take_of_lt
def ye:=@Int.lt_trichotomy
def yD:=@Prod.mk.inj
def yB:=@List.eq_nil_iff_forall_not_mem
def yx:=@List.nodup_cons
def xS:=@Go.wpAny_ready
def yw:=@Go.AllReady.nil
def yk:=@if_true
def BE:=@Go.execOp_put
def Ap:=@Go.Act.put_comm
def Ay:=@Go.ready_mono
def xY:=@List.map_toArray
def Br:=@List.map_congr_left
def Bc:=@Bool.false_and
def Ag:=@Go.Proofs.swap_worldA
def Aw:=@Go.Proofs.shiftUp_stop
def BH:=@Go.Proofs.swap_world
def BA:=@Go.Proofs.scanUp_end
def BQ:=@Go.Proofs.holds_one
def zx:=@Go.Proofs.of_beq_int
def zK:=@Go.Proofs.of_bne_int
def Bz:=@List.pairwise_map
def BM:=@List.pairwise_iff_getElem
def yT:=@List.length_pos_iff
def xy:=@Nat.min_eq_left
def zM:=@List.eq_nil_of_length_eq_zero
def tm:=@List.getElem?_append
def AI:=@List.mem_append_right
def xd:=@List.all_eq_false
def C8:=@Array.any_eq_true'
def CC:=@Go.wanted_put
def AQ:=@Bool.and_true
def CU:=@Go.all_oneCell_toArray
def Ca:=@Go.wpList_plain
def Dl:=@Go.wpIn_region_any
def De:=@getElem!_pos
def Cl:=@Nat.eq_zero_or_pos
def C7:=@List.ext_getElem?
def CX:=@Nat.mul_one
def Cr:=@or_false
def Cp:=@List.mem_range'_1
def Dt:=@Nat.sub_self
def zN:=@true_and
def BZ:=@and_true
def zD:=@List.drop_eq_getElem_cons
def Cd:=@Go.BigFrame.wpQuiet_want
def CH:=@List.getLast?_append
def BW:=@List.filter_sublist
def DM:=@Go.wpAnyIn_done
def GW:=@List.pairwise_lt_range
def FZ:=@Option.map_some
def Ei:=@BitVec.toNat_and
def Ga:=@Nat.mod_eq_of_lt
def Ey:=@Bool.not_true
def Gr:=@Go.frozen_of_row
def Ej:=@Nat.add_sub_cancel
def EL:=@ne_of_beq_false
def FF:=@Go.bodyPost_end
def Gp:=@Go.Proofs.Tryz.underlying3
def Ge:=@Go.Proofs.Tryz.isAgg3
def FK:=@Go.Proofs.Tryz.sizeOf3
def FQ:=@Go.Proofs.Tryz.zeroValue3
def FV:=@Go.Proofs.Tryz.underlying4
def Fx:=@Go.Proofs.Tryz.isAgg4
def EB:=@Go.Proofs.Tryz.sizeOf4
def Fj:=@Go.Proofs.Tryz.zeroValue4
def Fu:=@List.pairwise_append
def Ew:=@Array.getElem?_modify
def Ef:=@List.map_singleton
def Cn:=@List.all_append
def Ht:=@List.mem_replicate
def Gu:=@Go.setRow_other
def Ed:=@Go.setRow_heap
def ED:=@Go.run_storeVar_row
def EF:=@Go.wp_region_held_drew
def Fi:=@Go.wpAnyH_done
def Hu:=@Option.some.injEq
def Ex:=@List.perm_ext_iff_of_nodup
def D3:=@Go.BigFrame.wpList_want
def Gn:=@List.length_drop
def FL:=@Go.IntWalk.u8_in
def EZ:=@List.filter_eq_nil_iff
def Fv:=@Nat.le_of_ble_eq_true
def Hj:=@Go.boxed_own
def Fw:=@Go.KeepsOthers.setCell
def Eu:=@List.getLast?_eq_none_iff
def F9:=@List.mem_of_mem_head?
def F0:=@Bool.or_assoc
def Ez:=@Go.Deep.open_slice
def Ju:=@Go.wp_region_any
def MB:=@Nat.add_comm
def KK:=@Nat.lt_of_not_le
def JP:=@BitVec.toNat_neg
def Jl:=@BitVec.toNat_mul
def Jb:=@BitVec.toNat_sub
def KL:=@List.foldl_cons
def Iu:=@Bool.and_false
def JB:=@Array.ext_getElem?
def KU:=@Go.Lib.run_equalIn_slice_nil
def LM:=@Go.World.ownsRow_lit
def I7:=@Nat.succ_mul
def Hz:=@List.flatMap_nil
def IG:=@Go.Lib.ownsRow_kind
def KC:=@Go.CallsIn.inRound
def Mi:=@Go.Proofs.Tryz.underlying9
def MC:=@Go.bits_xor_u64_nat
def Md:=@List.mem_mergeSort
def Lw:=@Go.Proofs.Tryz.underlying0
def IC:=@List.take_zero
def Mh:=@List.flatten_append
def JL:=@List.flatten_singleton
def Jv:=@List.getElem?_replicate
def J8:=@Nat.mul_le_mul
def MM:=@List.nodup_range
def Jt:=@Nat.zero_mul
def Iw:=@Option.map_eq_some_iff
def K5:=@Nat.mul_assoc
def JY:=@Nat.le_mul_of_pos_left
def Lt:=@List.drop_drop
def JS:=@Go.World.cell?_setCell_other
def Mw:=@List.drop_eq_nil_of_le
def Iy:=@List.getElem?_take
def Je:=@Subtype.ext
def Ji:=@Go.run_underlying
def LK:=@List.filter_cons
def L6:=@List.cons.injEq
def JZ:=@List.getLast?_map
def J3:=@List.filter_eq_self
def LF:=@Array.getElem?_eq_none
def I2:=@Bool.false_eq_true
def MN:=@List.filter_congr
def IU:=@UInt8.toNat_add
def Jf:=@List.filter_cons_of_pos
def IT:=@List.filter_cons_of_neg
def I3:=@Nat.succ_lt_succ
def I1:=@List.any_cons
def Mf:=@Go.Lib.tabIs_of_head
def LV:=@Go.Maps.atKey_put_other
def ML:=@Array.length_toList
def Qv:=@Array.setIfInBounds_comm
def Sy:=@List.Pairwise.filter
def OB:=@BitVec.getLsbD_ofNat
def OH:=@Nat.testBit_two_pow
def NZ:=@BitVec.eq_of_getLsbD_eq
def TW:=@Array.getElem?_setIfInBounds
def Na:=@List.range_succ_eq_map
def TD:=@BitVec.ofInt_natCast
def Ur:=@Nat.xor_lt_two_pow
def Sb:=@List.pairwise_mergeSort
def Q6:=@List.mem_map_of_mem
def T6:=@Go.wpList_append_own_none
def SC:=@List.length_replicate
def PS:=@Bool.and_eq_false_iff
def Tr:=@Nat.le_mul_of_pos_right
def Us:=@Go.World.frozen?_setCell
def QB:=@Go.World.cell?_setCell_same
def QI:=@List.getElem?_drop
def RY:=@Go.Sort.alloc_eq_grow
def Ss:=@List.map_inj_right
def Qk:=@List.getLast?_singleton
def Tm:=@List.getElem?_set_ne
def Uj:=@List.Perm.eq_of_pairwise
def TH:=@List.length_pos_of_mem
def Qy:=@Option.isSome_iff_exists
def OD:=@List.erase_cons_tail
def RA:=@List.getElem?_eq_none_iff
def R7:=@List.idxOf_lt_length_iff
def O8:=@List.append_of_mem
def OK:=@List.Nodup.sublist
def SH:=@Array.extract_size
def S1:=@Array.getElem_toList
def PT:=@Go.World.putObj_heap_same
def T4:=@List.Nodup.length_le_of_subset
def QC:=@BitVec.getLsbD_not
def Ro:=@decide_eq_false_iff_not
def Up:=@Array.mem_of_getElem?
def J9:=@List.all_cons
def KN:=@List.all_nil
def Uw:=@UInt8.le_iff_toNat_le
def Lg:=@decide_eq_decide
def Ut:=@List.idxOf_cons_self
end Go
namespace Go.Proofs.YtilhngjecfdgpaaGreatDoor
open Go.RowKit Go.Shelf Go.Proofs.Tryz
namespace Bs
def cZ(s:BitVec 64):List Nat:=(List.range 64).filter (fun i=>s.getLsbD i)
def pH{s}{i}:i∈cZ s↔s.getLsbD i=true:=by
 unfold cZ
 grind
def Cw:cZ 0=[]:=by
 simp[cZ]
def Ar(s):(cZ s).Pairwise (·<·):=by
 exact Sy _ GW
def KD:∀{a b:List Nat},a.Pairwise (·<·)->b.Pairwise (·<·)->(∀i,i∈a↔i∈b)->a=b
 |[],[],_,_,_=>rfl
 |[],y::_,_,_,h=>by have:=(h y).2 (by simp);simp at this
 |x::_,[],_,_,h=>by have:=(h x).1 (by simp);simp at this
 |x::xs,y::ys,c,e,h=>by
  rw[lU]at c e;have f:x=y:=by
   have:=(h x).1 (by simp);have:=(h y).2 (by simp)
   grind
  subst f;rw[KD c.2 e.2 (fun i=>?_)]
  grind
def low(s:BitVec 64):Nat:=Lib.ctz 64 s.toNat
def DK{s}(h:s≠0):∃m,s.toNat=2^low s*(2*m+1)/\low s<64:=by
 have a:s.toNat≠0:=fun e=>h (sA (by grind));have e:low s=Lib.ctzFrom 64 s.toNat:=by simp[low,Lib.ctz,a]
 rw[e];exact Lib.ctzFrom_spec 64 s.toNat (by omega) s.isLt
def Hg{s}(h:s≠0):low s<64:=(DK h).choose_spec.2
def Ky(k m i):(2^k*(2*m+1)).testBit i=(decide (i=k)||(decide (k<i)&&m.testBit (i-k-1))):=by
 by_cases k<=i
 .by_cases i=k
  .grind
  obtain⟨j,rfl⟩:∃j,i=k+(j+1):=⟨i-k-1,by omega⟩
  have:k+(j+1)-k=j+1:=by omega
  grind
 grind
def qA{s:BitVec 64}(h:s≠0):s.getLsbD (low s)=true:=by
 have⟨m,a,_⟩:=DK h;rw[<-xi,a,Ky];simp
def NH{s}(h:s≠0){i}(b:i<low s):s.getLsbD i=false:=by
 have⟨m,a,_⟩:=DK h;rw[<-xi,a,Ky]
 grind
def rest(s:BitVec 64):BitVec 64:=s&&&(s-1)
def aaD(k i):(2^k-1).testBit i=decide (i<k):=by
 grind
def Ze(k m):2^k*(2*m+1)-1=2^(k+1)*m+(2^k-1):=by
 have:2^k*(2*m+1)=2^(k+1)*m+2^k:=by
  grind
 grind
def Ai{s}(h:s≠0)(i):(rest s).getLsbD i=(s.getLsbD i&&decide (i≠low s)):=by
 have⟨m,a,e⟩:=DK h;have b:(s-1).toNat=s.toNat-1:=by
  have:=s.isLt
  grind
 unfold rest;rw[lF,<-xi,<-xi,b,a,Ze,Ky];have:(2^(low s+1)*m+(2^low s-1)).testBit i=(if i<low s+1 then decide (i<low s)else m.testBit (i-(low s+1))):=by
  have c:2^low s-1<2^(low s+1):=by
   grind
  rw[Nat.testBit_two_pow_mul_add _ c,aaD]
 grind
def pA{s}(h:s≠0):cZ s=low s::cZ (rest s):=by
 apply KD (Ar s)
 .rw[lU];refine⟨?_,Ar _⟩;intro j a;rw[pH,Ai h]at a;simp at a;apply KK;intro b;have:j<low s:=by omega
  rw[NH h this]at a
  grind
 intro i;rw[pH,fI,pH,Ai h];by_cases e:i=low s
 .subst e;simp[qA h]
 simp[e]
def z8{s}(h:s≠0):(cZ (rest s))<(cZ s).length:=by
 rw[pA h];simp
def upto(s:BitVec 64)(k:Nat):List Nat:=(List.range k).filter (fun i=>s.getLsbD i)
def aaA(s)(k)(h:s.getLsbD k=true):upto s (k+1)=upto s k++[k]:=by
 unfold upto;rw[jh,oh];simp[h]
def V9(s)(k)(h:s.getLsbD k=false):upto s (k+1)=upto s k:=by
 unfold upto;rw[jh,oh];simp[h]
def agU(s)(k):(upto s k)<=k:=by
 unfold upto
 grind
def L4(s):(cZ s).length<=64:=agU s 64
def afm(s:BitVec 64)(h:s≠0):((s&&& -s)*285870213051353865#64).toNat/288230376151711744=2^low s*285870213051353865%18446744073709551616/288230376151711744:=by
 have a:s.toNat≠0:=fun e=>h (sA (by simpa using e));have b:=(Lib.lowest_bit 64 s.toNat a s.isLt).1;have e:(s&&& -s).toNat=2^low s:=by
  rw[Ei,JP,Ga (by omega)];exact b
 rw[Jl,e];rfl
end Bs
namespace Bv
def U(s:BitVec 64):Int:=s.toNat
def SX{s t}:U s=U t↔s=t:=
 ⟨fun h=>sA (by unfold U at h;omega),fun h=>by rw[h]⟩
def sM(s):BitVec.ofInt 64 (U s)=s:=by
 unfold U
 grind
def Vm(x):U (BitVec.ofInt 64 x)=x%18446744073709551616:=by
 unfold U;rw[BitVec.toNat_ofInt];omega
def Wi(x):IntKind.u64.wrap x=U (BitVec.ofInt 64 x):=by
 rw[Vm,ya]
def Ih(s):IntKind.u64.wrap (U s)=U s:=by rw[Wi,sM]
def Td(x y):bits .and .u64 x y=U (BitVec.ofInt 64 x&&&BitVec.ofInt 64 y):=by
 exact Ih _
def Wp(x y):bits .or .u64 x y=U (BitVec.ofInt 64 x|||BitVec.ofInt 64 y):=by
 exact Ih _
def Zj(x y):bits .andNot .u64 x y=U (BitVec.ofInt 64 x&&& ~~~BitVec.ofInt 64 y):=by
 exact Ih _
def fE(s t):bits .and .u64 (U s) (U t)=U (s&&&t):=by rw[Td,sM,sM]
def fO(s t):bits .or .u64 (U s) (U t)=U (s|||t):=by rw[Wp,sM,sM]
def fA(s t):bits .andNot .u64 (U s) (U t)=U (s&&& ~~~t):=by rw[Zj,sM,sM]
def acZ(n):BitVec.ofInt 64 (OfNat.ofNat n:Int)=BitVec.ofNat 64 n:=by
 show BitVec.ofInt 64 ((n:Nat):Int)=_
 grind
def aae(s)(n):bits .and .u64 (U s) (OfNat.ofNat n:Int)=U (s&&&BitVec.ofNat 64 n):=by rw[Td,sM,acZ]
def ZF(s t):IntKind.u64.wrap (U s-U t)=U (s-t):=by
 unfold U;rw[ya,Jb];omega
def fL(s):IntKind.u64.wrap (U s-1)=U (s-1#64):=ZF s 1#64
def fQ(s):IntKind.u64.wrap (-(U s))=U (-s):=by
 unfold U;rw[ya,JP];omega
def wrap_mul(s t):IntKind.u64.wrap (U s*U t)=U (s*t):=by
 unfold U;rw[ya,Jl,<-Int.natCast_mul];omega
def fC(s):(U s==0)=(s==0#64):=by
 rw[kG];simp only[fg];exact⟨fun h=>SX.1 h,fun h=>by rw[h];rfl⟩
def gn(s):(U s !=0)=(s !=0#64):=by simp only[bne,fC]
def bit(i:Nat):BitVec 64:=BitVec.ofNat 64 (2^i)
def ik(i k)(a:i<64):(bit i).getLsbD k=decide (k=i):=by
 unfold bit;rw[OB,OH]
 grind
def fP(n):IntKind.u64.wrap ((2:Int)^n)=U (bit n):=by
 unfold bit U;rw[ya,BitVec.toNat_ofNat]
 grind
def yl(s)(n:Nat):U s/2^n=U (s>>>n):=by
 unfold U;have e:((2:Int)^n)=((2^n:Nat):Int):=by simp
 rw[e,BitVec.toNat_ushiftRight,Nat.shiftRight_eq_div_pow,<-Int.natCast_ediv]
def aec(s:BitVec 64)(n):(s>>>n&&&1#64)=if s.getLsbD n then 1#64 else 0#64:=by
 grind
def G(s:BitVec 64)(i:Nat):Bool:=s.getLsbD i
def B1(b:Bool):Int:=if b then 1 else 0
def wZ(b):(B1 b==1)=b:=by cases b<;>rfl
def xO(b):(B1 b==0)=!b:=by cases b<;>rfl
def Aj(s)(n):bits .and .u64 (U (s>>>n)) 1=B1 (G s n):=by
 rw[(aae (s>>>n) 1),aec];unfold G;cases s.getLsbD n<;>rfl
def afY(n i)(a:n<=64)(b:i<64):(bit n-1#64).getLsbD i=decide (i<n):=by
 have e:(bit n-1#64).toNat=2^n-1:=by
  unfold bit;by_cases n=64
  .grind
  have:2^n<2^64:=Nat.pow_lt_pow_right (dr rfl) (by omega)
  grind
 rw[<-xi,e,Nat.testBit_two_pow_sub_one]
def ext_get{s t:BitVec 64}(h:∀i,i<64->s.getLsbD i=t.getLsbD i):s=t:=NZ h
def Ek(s:BitVec 64)(i)(a:i<64):(~~~s).getLsbD i=!s.getLsbD i:=by grind
def lu(i):(0#64).getLsbD i=false:=by simp
end Bv
namespace Bx
def mk(f:Nat->Bool):BitVec 64:=(List.range 64).foldl (fun s i=>if f i then s|||Bv.bit i else s) 0#64
def adq(f:Nat->Bool)(n)(b:n<=64)(i):
 ((List.range n).foldl (fun s i=>if f i then s|||Bv.bit i else s) 0#64).getLsbD i=(decide (i<n)&&f i):=by
 induction n with
 |zero=>simp
 |succ n a=>
  rw[jh,List.foldl_append];simp only[KL,List.foldl_nil];split
  .rw[iU,a (by omega),Bv.ik n i (by omega)]
   grind
  grind
def tV(f)(i)(a:i<64):(mk f).getLsbD i=f i:=by
 unfold mk;rw[adq f 64 (av _) i];simp[a]
def fR(s:BitVec 64)(i:Nat):Nat:=(Bs.upto s i).length
def rO(s)(i)(h:s.getLsbD i=true):fR s (i+1)=fR s i+1:=by unfold fR;rw[Bs.aaA s i h];simp
def pX(s)(i)(h:s.getLsbD i=false):fR s (i+1)=fR s i:=by unfold fR;rw[Bs.V9 s i h]
def Kb(s)(i):fR s i<=fR s (i+1):=by
 cases h:s.getLsbD i
 .rw[pX s i h];omega
 rw[rO s i h];omega
def ab1(s){i j}(h:i<=j):fR s i<=fR s j:=by
 induction j with
 |zero=>obtain rfl:i=0:=by omega
        exact av _
 |succ j a=>
  by_cases i=j+1
  .grind
  exact aO (a (by omega)) (Kb s j)
def aer(s){i j}(h:i<j)(a:s.getLsbD i=true):fR s i<fR s j:=by
 have:=ab1 s (show i+1<=j by omega);rw[rO s i a]at this;omega
def mV{s:BitVec 64}{i}(h:s.getLsbD i=true):i<64:=by
 grind
end Bx
namespace Bx
def agW(a b)(n)(h:n<=64):fR (a&&& ~~~b) n+fR (a&&&b) n=fR a n:=by
 induction n with
 |zero=>rfl
 |succ n j=>
  have c:(a&&& ~~~b).getLsbD n=(a.getLsbD n&&!b.getLsbD n):=by grind
  have e:=lF (x:=a) (y:=b) (i:=n);cases f:a.getLsbD n<;>cases g:b.getLsbD n
  all_goals
   rw[f,g]at c e;simp only[Bool.not_false,Ey,Iu,AQ]at c e
  .rw[pX _ n c,pX _ n e,pX _ n f];omega
  .rw[pX _ n c,pX _ n e,pX _ n f];omega
  .rw[rO _ n c,pX _ n e,rO _ n f];omega
  rw[pX _ n c,rO _ n e,rO _ n f];omega
def card(s:BitVec 64):Nat:=(Bs.cZ s).length
def ab7(a b):card (a&&& ~~~b)+card (a&&&b)=card a:=agW a b 64 (av _)
def D4(s):card s<=64:=Bs.L4 s
def Sz{s}{i}(h:s.getLsbD i=true):s≠0#64:=fun e=>by grind
def afs{s}{i}(h:s.getLsbD i=true):Bs.low s<=i:=by
 apply Nat.le_of_not_lt;intro a;rw[Bs.NH (Sz h) a]at h;cases h
def Xe{s}{k}(h:s.getLsbD k=true)(a:∀i,i<k->s.getLsbD i=false):Bs.low s=k:=by
 have:=afs h;have:=Bs.qA (Sz h)
 grind
end Bx
namespace Rl
abbrev Rows:=Nat->BitVec 64
def bit(f:Rows)(a b:Nat):Bool:=(f a).getLsbD b
def below(n:Int):BitVec 64:=Bv.bit (min n.toNat 64)-1#64
def Sm(n)(i)(a:i<64):(below n).getLsbD i=decide ((i:Int)<n):=by
 unfold below;rw[Bv.afY _ _ (by omega) a,kG]
 grind
def qZ(n i:Nat)(a:i<64):(below (n:Int)).getLsbD i=decide (i<n):=by
 rw[Sm _ _ a,kG];simp
def Hm(n:Int)(a:Nat)(s:BitVec 64):Bool:=(s&&& ~~~(below n)==0#64)&&(decide ((a:Int)<n)||s==0#64)
def rG(n:Int)(f:Rows)(k:Nat):Bool:=(List.range k).all (fun a=>Hm n a (f a))
def aaz(n)(f)(k):rG n f (k+1)=(rG n f k&&Hm n k (f k)):=by simp[rG,jh]
def iq(n:Int)(f:Rows):Bool:=decide (0<=n/\n<=48)&&rG n f 48
def sub_zero(s t):(s&&& ~~~t==0#64)=true↔∀i,i<64->s.getLsbD i=true->t.getLsbD i=true:=by
 rw[fg];constructor
 .intro h i a b;have:=cg (fun x=>BitVec.getLsbD x i) h
  grind
 grind
def XI(s):(s==0#64)=true↔∀i,i<64->s.getLsbD i=false:=by
 grind
structure Ok(n:Nat)(f:Rows):Prop where
 le:n<=48
 cz:∀a b,bit f a b=true->a<n/\b<n
def Z(f:Rows):Prop:=∀a,48<=a->f a=0#64
def Ok.z{n}{f}(h:Ok n f):Z f:=fun a i=>by
 apply Bv.ext_get;intro b o;rw[Bv.lu];cases g:(f a).getLsbD b
 .rfl
 have:=h.cz a b g;have:=h.le;omega
def KO(n:Nat)(f)(o:Z f):iq (n:Int) f=true↔Ok n f:=by
 unfold iq rG Hm;simp only[cH,lD,mw,fS,jW];constructor
 .rintro⟨⟨_,p⟩,e⟩;refine⟨by omega,fun a b c=>?_⟩;have l:=Bx.mV c;have g:a<48:=by
   apply ki;intro g;unfold bit at c;rw[o a (by omega),Bv.lu]at c;cases c
  have⟨q,h⟩:=e a g;have j:=(sub_zero _ _).1 q b l c;rw[qZ _ _ l]at j;have j:=mf j;obtain h|h:=h
  .omega
  unfold bit at c
  grind
 rintro⟨p,e⟩;refine⟨⟨by omega,by omega⟩,fun a g=>⟨(sub_zero _ _).2 fun i m c=>?_,?_⟩⟩
 .rw[qZ _ _ m];exact fB (e a i c).2
 by_cases r:a<n
 .omega
 refine .inr ((XI _).2 fun i m=>?_);cases c:(f a).getLsbD i
 .rfl
 exact absurd (e a i c).1 r
def Mq{n}{f}(a:Z f)(h:iq n f=true):∃m:Nat,n=(m:Int)/\Ok m f:=by
 have:0<=n:=by
  unfold iq at h
  grind
 obtain⟨m,rfl⟩:∃m:Nat,n=(m:Int):=⟨n.toNat,by omega⟩
 exact⟨m,rfl,(KO m f a).1 h⟩
def cut(n:Nat)(g:Rows):Rows:=fun a=>if a<n then g a else 0#64
def qM(n)(g)(a b):bit (cut n g) a b=(decide (a<n)&&bit g a b):=by
 unfold bit cut
 grind
def MR{n}(c:n<=48){g}(h:∀a b,a<n->bit g a b=true->b<n):Ok n (cut n g):=
 ⟨c,fun a b e=>by
   rw[qM,cH]at e
   grind⟩
def oC{n}{f}(h:Ok n f):iq (n:Int) f=true:=(KO n f h.z).2 h
def vI(g:Rows)(l:List Nat):BitVec 64:=l.foldl (fun t b=>t|||g b) 0#64
def LU(g)(l)(c):(vI g l).getLsbD c=l.any (fun b=>bit g b c):=by
 have:∀(l:List Nat)(t:BitVec 64),(l.foldl (fun t b=>t|||g b) t).getLsbD c=(t.getLsbD c||l.any (fun b=>bit g b c)):=by
  intro l
  induction l with
  |nil=>intro t;simp
  |cons b l a=>intro t;rw[KL,a,iU,I1,F0];rfl
 unfold vI
 grind
def Wd(g)(t)(b)(l):t|||vI g (b::l)=(t|||g b)|||vI g l:=by
 apply Bv.ext_get;intro c a;rw[iU,iU,iU,LU,LU,I1,F0];rfl
def py(g:Rows)(s:BitVec 64):BitVec 64:=vI g (Bs.cZ s)
def SG(g)(s)(c):(py g s).getLsbD c=true↔∃b,s.getLsbD b=true/\bit g b c=true:=by
 unfold py;rw[LU,List.any_eq_true];constructor
 .rintro⟨b,a,h⟩;exact⟨b,Bs.pH.1 a,h⟩
 rintro⟨b,a,h⟩;exact⟨b,Bs.pH.2 a,h⟩
def rN(n:Nat)(f g:Rows):Rows:=cut n fun a=>f a|||g a
def sI(n:Nat)(f g:Rows):Rows:=cut n fun a=>f a&&&g a
def lK(n:Nat)(f g:Rows):Rows:=cut n fun a=>py g (f a)
def tt(n:Nat)(s:BitVec 64):Rows:=cut n fun a=>s&&&Bv.bit a
def sG(n:Nat)(s t:BitVec 64):Rows:=cut n fun a=>if s.getLsbD a then t&&&below (n:Int)else 0#64
def dR(n:Nat)(f:Rows):Rows:=fun b=>Bx.mk fun a=>decide (a<n)&&bit f a b
def Pr{f}{a b}(h:bit f a b=true):b<64:=Bx.mV h
def ad1(n)(f g)(a b)(c:a<n):bit (rN n f g) a b=(bit f a b||bit g a b):=by
 unfold rN;rw[qM];unfold bit
 grind
def U9(n)(f g)(a b)(c:a<n):bit (sI n f g) a b=(bit f a b&&bit g a b):=by
 unfold sI;rw[qM];unfold bit
 grind
def aeG(n)(f g)(a c)(e:a<n):bit (lK n f g) a c=true↔∃b,bit f a b=true/\bit g b c=true:=by
 unfold lK;rw[qM,fB e,kQ];exact SG g (f a) c
def RP(n)(s)(a b)(c:a<n)(e:n<=48):bit (tt n s) a b=(decide (b=a)&&s.getLsbD b):=by
 unfold tt;rw[qM,fB c,kQ];unfold bit;rw[lF,Bv.ik a b (by omega),Bool.and_comm]
def Sq(n)(s t)(a b)(c:a<n)(f:n<=48):bit (sG n s t) a b=(s.getLsbD a&&t.getLsbD b&&decide (b<n)):=by
 unfold sG;rw[qM,fB c,kQ];show(if s.getLsbD a=true then t&&&below (n:Int)else 0#64).getLsbD b=_;split
 .rename_i h;rw[h,kQ,lF];by_cases e:b<64
  .rw[qZ _ _ e]
  grind
 grind
def Tn(n)(f)(a b)(c:b<64):bit (dR n f) a b=(decide (b<n)&&bit f b a):=by
 unfold bit dR;rw[Bx.tV _ b c];rfl
def xW{n}{f g}(c:Ok n f)(e:Ok n g):Ok n (rN n f g):=MR c.le fun a b i h=>by
 unfold bit at h;rw[iU,jW]at h;obtain h|h:=h
 .exact(c.cz a b h).2
 exact(e.cz a b h).2
def RF{n}{f g}(c:Ok n f):Ok n (sI n f g):=MR c.le fun a b e h=>by
 unfold bit at h;rw[lF,cH]at h;exact(c.cz a b h.1).2
def Dw{n}{f g}(e:Ok n f)(i:Ok n g):Ok n (lK n f g):=MR e.le fun a c l h=>by
 have⟨b,m,j⟩:=(SG g (f a) c).1 h;exact(i.cz b c j).2
def Ub{n}(e:n<=48)(s):Ok n (tt n s):=⟨e,fun a b h=>by
 unfold tt at h;rw[qM,cH]at h;have:=mf h.1;have c:=h.2;unfold bit at c;rw[lF,Bv.ik a b (by omega),cH]at c
 grind⟩
def CP{n}(c:n<=48)(s t):Ok n (sG n s t):=⟨c,fun a b h=>by
 have e:a<n:=by
  unfold sG at h;rw[qM,cH]at h
  grind
 rw[Sq n s t a b e c,cH]at h
 grind⟩
def Fo{n}{f}(c:Ok n f):Ok n (dR n f):=⟨c.le,fun a b h=>by
 rw[Tn n f a b (Pr h),cH]at h;exact⟨(c.cz b a h.2).2,(mf h.1)⟩⟩
def Bg{n}{f}(c:Ok n f)(a b):bit (dR n f) a b=bit f b a:=by
 have:=c.le;by_cases e:b<64
 .rw[Tn n f a b e];cases h:bit f b a
  .simp
  simp[(c.cz b a h).1]
 cases h:bit f b a
 .cases g:bit (dR n f) a b
  .rfl
  exact absurd (Pr g) e
 have:=(c.cz b a h).1;omega
end Rl
namespace Rl
inductive Path(f:Rows):Nat->Nat->Prop
 |one {a b:Nat} (h:bit f a b=true):Path f a b
 |step {a b c:Nat} (h:bit f a b=true) (p:Path f b c):Path f a c
def Path.t{f}{a b c}(p:Path f a b)(q:Path f b c):Path f a c:=by
 induction p with
 |one h=>exact .step h q
 |step h _ g=>exact .step h (g q)
def Path.m{f g}(h:∀a b,bit f a b=true->Path g a b){a b}(p:Path f a b):Path g a b:=by
 induction p with
 |one i=>exact h _ _ i
 |step i _ o=>exact(h _ _ i).t o
def Path.Jc{f}{a b}(p:Path f a b):∃c,bit f c b=true:=by
 induction p with
 |one h=>exact⟨_,h⟩
 |step _ _ g=>exact g
def Path.lt{n}{f}(g:Ok n f){a b}(p:Path f a b):a<n/\b<n:=by
 induction p with
 |one h=>exact g.cz _ _ h
 |step h _ i=>exact⟨(g.cz _ _ h).1,i.2⟩
def Path.closed{f}{T:Nat->Nat->Prop}(g:∀a b,bit f a b=true->T a b)(i:∀a b c,T a b->T b c->T a c){a b}(p:Path f a b):T a b:=by
 induction p with
 |one h=>exact g _ _ h
 |step h _ o=>exact i _ _ _ (g _ _ h) o
def agl{s t}(h:∀i,s.getLsbD i=true->t.getLsbD i=true)(k):Bx.fR s k<=Bx.fR t k:=by
 induction k with
 |zero=>exact av _
 |succ k b=>
  cases a:s.getLsbD k
  .rw[Bx.pX _ _ a];exact aO b (Bx.Kb t k)
  rw[Bx.rO _ _ a,Bx.rO _ _ (h k a)];omega
def ac4{s t}(h:∀i,s.getLsbD i=true->t.getLsbD i=true)(a:s≠t):Bx.card s<Bx.card t:=by
 obtain⟨i,b,c,f⟩:∃i,i<64/\s.getLsbD i=false/\t.getLsbD i=true:=by
  apply ki;intro j;apply a;apply Bv.ext_get
  grind
 have l:=agl h i;have key:∀k,i<k->Bx.fR s k<Bx.fR t k:=by
  intro k
  induction k with
  |zero=>intro h;omega
  |succ k g=>
   intro m;by_cases e:k=i
   .subst e;rw[Bx.pX _ _ c,Bx.rO _ _ f];omega
   have:=g (by omega);cases a:s.getLsbD k
   .rw[Bx.pX _ _ a];exact aW this (Bx.Kb t k)
   rw[Bx.rO _ _ a,Bx.rO _ _ (h k a)];omega
 exact key 64 b
end Rl
namespace Rl
def pJ(b:Rows)(left:BitVec 64):Option Nat:=(Bs.cZ left).find? fun a=>b a&&&left==0#64
def lH(b:Rows):Nat->BitVec 64->Option (List Nat)
 |0,_=>some []
 |k+1,left=>if left=0#64 then some []else
  match pJ b left with
  |none=>none
  |some a=>(lH b k (left&&& ~~~Bv.bit a)).map (a::·)
def lL(n:Nat)(f:Rows):Option (List Nat):=lH (dR n f) 64 (below (n:Int))
def Th{before}{left}{a}(h:pJ before left=some a):left.getLsbD a=true/\before a&&&left=0#64:=by
 unfold pJ at h;exact⟨Bs.pH.1 (List.mem_of_find?_eq_some h),by grind⟩
def V8{before}{left}(h:pJ before left=none){a}(b:left.getLsbD a=true):before a&&&left≠0#64:=by
 unfold pJ at h;rw[List.find?_eq_none]at h;have:=h a (Bs.pH.2 b)
 grind
def Vb(s)(a i)(b:a<64)(c:i<64):(s&&& ~~~Bv.bit a).getLsbD i=(s.getLsbD i&&decide (i≠a)):=by
 rw[lF,Bv.Ek _ _ c,Bv.ik a i b];simp
def Dz(s)(a i)(b:a<64):(s&&& ~~~Bv.bit a).getLsbD i=true↔s.getLsbD i=true/\i≠a:=by
 by_cases c:i<64
 .rw[Vb s a i b c,cH,lD]
 grind
def BU(s)(a)(h:s.getLsbD a=true):Bx.card (s&&& ~~~Bv.bit a)+1=Bx.card s:=by
 have b:=Bx.mV h;have:=Bx.ab7 s (Bv.bit a);have:s&&&Bv.bit a=Bv.bit a:=by
  apply Bv.ext_get;intro i c;rw[lF,Bv.ik a i b]
  grind
 have:Bx.card (Bv.bit a)=1:=by
  have:Bs.cZ (Bv.bit a)=[a]:=by
   apply Bs.KD (Bs.Ar _) (by simp);intro i;rw[Bs.pH];constructor
   .intro h;rw[Bv.ik a i b]at h
    grind
   intro h;simp at h;subst h;rw[Bv.ik i i b];simp
  unfold Bx.card
  grind
 grind
def Qr{s}(h:Bx.card s=0):s=0#64:=by
 apply Bv.ext_get;intro i a;rw[Bv.lu];cases b:s.getLsbD i
 .rfl
 have:=Bx.aer s a b;have:Bx.fR s 64=0:=h;omega
def Rv{before}:∀(k:Nat)(left:BitVec 64)(l:List Nat),Bx.card left<=k->lH before k left=some l->
 l.Nodup/\(∀a,a∈l↔left.getLsbD a=true)/\(∀p a q,l=p++a::q->∀c,bit before a c=true->left.getLsbD c=true->c∈p)
 |0,left,l,i,h=>by
  have z:=Qr (Nat.le_zero.1 i);simp only[lH,Hu]at h
  grind
 |k+1,left,l,i,h=>by
  unfold lH at h;split at h
  .grind
  split at h
  .cases h
  rename_i a r;have⟨j,s⟩:=Th r;have f:=Bx.mV j;have A:=BU left a j;rw[Iw]at h;obtain⟨m,t,rfl⟩:=h;have⟨u,n,v⟩:=Rv k _ m (by omega) t;refine⟨?_,fun c=>?_,fun p b q g c o w=>?_⟩
  .rw[yx];refine⟨fun y=>?_,u⟩;exact((Dz left a a f).1 ((n a).1 y)).2 rfl
  .rw[fI,n,Dz left a c f]
   grind
  cases p with
  |nil=>
   simp at g;obtain⟨rfl,rfl⟩:=g;exfalso;have:=cg (fun x=>BitVec.getLsbD x c) s;simp only[lF,Bv.lu]at this;unfold bit at o
   grind
  |cons x p=>
   obtain⟨rfl,rfl⟩:=g;by_cases e:c=a
   .grind
   exact kU _ (v p b q rfl c o ((Dz left a c f).2 ⟨w,e⟩))
def Qo{before}:∀(k:Nat)(left:BitVec 64),lH before k left=none->∃s,s≠0#64/\(∀a,s.getLsbD a=true->left.getLsbD a=true)/\∀a,s.getLsbD a=true->∃c,bit before a c=true/\s.getLsbD c=true
 |0,left,h=>by simp[lH]at h
 |k+1,left,h=>by
  unfold lH at h;split at h
  .cases h
  rename_i g;split at h
  .rename_i j;refine⟨left,g,fun _ h=>h,fun a l=>?_⟩;have b:=V8 j l;apply ki;intro m;apply b;apply Bv.ext_get;intro i n;rw[lF,Bv.lu];cases f:(before a).getLsbD i
   .rfl
   cases e:left.getLsbD i
   .rfl
   exact absurd ⟨i,f,e⟩ m
  rw[Option.map_eq_none_iff]at h;have⟨s,b,f,e⟩:=Qo k _ h;refine⟨s,b,fun c o=>?_,e⟩
  grind
def YG{f}{s}(r:s≠0#64)(h:∀a,s.getLsbD a=true->∃c,bit f c a=true/\s.getLsbD c=true):∃a,s.getLsbD a=true/\Path f a a:=by
 obtain⟨j,t⟩:∃a,s.getLsbD a=true:=⟨_,Bs.qA r⟩
 have u:∀k,∃l:List Nat,l.length=k+1/\(∀x∈l,s.getLsbD x=true)/\l.Pairwise (fun x y=>Path f x y)/\∃x,l.head?=some x:=by
  intro k
  induction k with
  |zero=>exact⟨[j],rfl,by simp[t],by simp,j,rfl⟩
  |succ k n=>
   obtain⟨l,v,o,b,x,g⟩:=n;cases l with
   |nil=>simp at g
   |cons y l=>
    simp at g;subst g;have⟨c,q,F⟩:=h y (o y (by simp));refine⟨c::y::l,by grind,?_,?_,c,rfl⟩
    .grind
    rw[lU];refine⟨fun z i=>?_,b⟩;obtain rfl|i:=fI.1 i
    .exact .one q
    exact .step q ((lU.1 b).1 z i)
 have⟨l,v,o,b,_⟩:=u 64;apply ki;intro w;have:∀x y,Path f x y->s.getLsbD x=true->x≠y:=fun x y p A e=>w ⟨x,A,by grind⟩;have C:l.Nodup:=by
  have:∀m:List Nat,(∀x∈m,s.getLsbD x=true)->m.Pairwise (fun x y=>Path f x y)->m.Nodup:=by
   intro m
   induction m with
   |nil=>intro _ _;exact List.nodup_nil
   |cons y m n=>
    intro H E;rw[lU]at E
    grind
  grind
 have:l.length<=(List.range 64).length:=by
  apply T4 C
  grind
 grind
def PH{n}{f}(e:Ok n f){l}(h:lL n f=some l):l.Nodup/\(∀a,a∈l↔a<n)/\(∀p a q,l=p++a::q->∀c,bit f c a=true->c∈p):=by
 have:=e.le;have⟨g,i,j⟩:=Rv 64 _ l (Bx.D4 _) h;refine⟨g,fun a=>?_,fun p a q m c b=>?_⟩
 .rw[i];constructor
  .intro b;rw[qZ _ _ (Bx.mV b)]at b
   grind
  intro r;rw[qZ _ _ (by omega)]
  grind
 have o:=e.cz c a b;exact j p a q m c ((Bg e a c).t b) (by rw[qZ _ _ (by omega)];exact fB o.1)
def aeU{n}{f}(e:Ok n f)(h:lL n f=none):∃a,a<n/\Path f a a:=by
 have⟨s,g,i,j⟩:=Qo 64 _ h;have:∀a,s.getLsbD a=true->a<n:=fun a b=>by
  have:=i a b;rw[qZ _ _ (Bx.mV b)]at this
  grind
 have⟨a,b,p⟩:=YG (f:=f) g (fun a b=>by
  have⟨c,l,m⟩:=j a b;exact⟨c,(Bg e a c).s.t l,m⟩)
 grind
def acC{n}{f}(c:Ok n f){l}(h:lL n f=some l){a}:¬Path f a a:=by
 have⟨j,e,m⟩:=PH c h;have:∀a b,Path f a b->l.idxOf a<l.idxOf b:=by
  intro a b p;have step:∀a b,bit f a b=true->l.idxOf a<l.idxOf b:=by
   intro a b g;obtain⟨p,q,rfl⟩:=O8 ((e b).2 (c.cz a b g).2)
   grind
  induction p with
  |one h=>exact step _ _ h
  |step h _ i=>exact lZ (step _ _ h) i
 grind
def N0{n}{f}(b:Ok n f):(lL n f).isSome=true↔∀a,¬Path f a a:=by
 cases h:lL n f with
 |none=>
  have⟨a,c,p⟩:=aeU b h
  grind
 |some l=>simp only[Option.isSome_some,true_iff];exact fun a=>acC b h
end Rl
namespace Rl
def uS(b:Rows)(left:BitVec 64)(a:Nat):Bool:=b a&&&left==0#64
def ext(b:Rows):Nat->BitVec 64->List Nat->List (List Nat)
 |0,_,l=>[l]
 |k+1,left,l=>if left=0#64 then [l]else(Bs.cZ left).flatMap fun a=>if uS b left a then ext b k (left&&& ~~~Bv.bit a) (l++[a])else []
def oW(b:Rows)(k:Nat)(left:BitVec 64)(l:List Nat)(rest:BitVec 64):List (List Nat):=(Bs.cZ rest).flatMap fun a=>if uS b left a then ext b k (left&&& ~~~Bv.bit a) (l++[a])else []
def ext_nil(a)(k)(l):ext a k 0#64 l=[l]:=by
 cases k with
 |zero=>rfl
 |succ k=>unfold ext;rw[aq rfl]
def S8{a}{k}{left}{l}(h:left≠0#64):ext a (k+1) left l=oW a k left l left:=by
 unfold ext oW
 grind
def aef(before)(k)(left)(l):oW before k left l 0#64=[]:=by
 rfl
def ada{a}{k}{left}{l}{rest}(b:rest≠0#64)(h:uS a left (Bs.low rest)=true):
 oW a k left l rest=ext a k (left&&& ~~~Bv.bit (Bs.low rest)) (l++[Bs.low rest])++oW a k left l (Bs.rest rest):=by
 unfold oW;rw[Bs.pA b,uz,aq h]
def adB{before}{k}{left}{l}{rest}(a:rest≠0#64)(h:uS before left (Bs.low rest)=false):
 oW before k left l rest=oW before k left l (Bs.rest rest):=by
 unfold oW;rw[Bs.pA a,uz,O (by grind),gG]
end Rl
namespace Rl
def Good(b:Rows):List Nat->Prop
 |[]=>True
 |a::q=>(∀c∈a::q,bit b a c=false)/\Good b q
def PD(before)(left)(a):uS before left a=true↔∀c,left.getLsbD c=true->bit before a c=false:=by
 unfold uS;rw[fg];constructor
 .intro h c e;have b:=cg (fun s=>s.getLsbD c) h;simp only[lF,e,AQ]at b;rw[Bv.lu]at b;exact b
 intro h;apply Bv.ext_get;intro i g;rw[lF,Bv.lu];cases f:left.getLsbD i
 .simp
 rw[AQ];exact h i f
def KW(n):∀(k:Nat)(left:BitVec 64)(l x:List Nat),Bx.card left<=k->
 (x∈ext n k left l↔∃t,x=l++t/\t.Nodup/\(∀a,a∈t↔left.getLsbD a=true)/\Good n t)
 |k,left,l,x,i=>by
  by_cases o:left=0#64
  .subst o;rw[ext_nil,lh];constructor
   .rintro rfl;exact⟨[],by simp,by simp,fun a=>by rw[Bv.lu];simp,trivial⟩
   rintro⟨t,rfl,_,h,_⟩;cases t with
   |nil=>simp
   |cons a t=>have:=(h a).1 (by simp);rw[Bv.lu]at this;cases this
  match k,i with
  |0,i=>
   exfalso;have j:=Bs.pA o;unfold Bx.card at i;rw[j]at i;simp at i
  |k+1,i=>
   rw[S8 o];unfold oW;rw[mR];constructor
   .rintro⟨a,f,r⟩;rw[Bs.pH]at f;split at r
    .rename_i s;rw[PD]at s;have w:=BU left a f;obtain⟨t,rfl,j,g,p⟩:=(KW n k _ _ _ (by omega)).1 r;have u:∀b,b∈t↔left.getLsbD b=true/\b≠a:=fun b=>by
      rw[g,lF,cH,QC,Bv.ik a b (Bx.mV f)];simp only[cH,lD,x8,Ro];exact⟨fun h=>⟨h.1,h.2.2⟩,fun h=>⟨h.1,Bx.mV h.1,h.2⟩⟩
     refine⟨a::t,by simp,yx.2 ⟨fun h=>((u a).1 h).2 rfl,j⟩,fun b=>?_,fun c m=>?_,p⟩
     .rw[fI,u];constructor
      .rintro(rfl|h)
       .exact f
       exact h.1
      intro h;by_cases e:b=a
      .exact .inl e
      exact .inr ⟨h,e⟩
     obtain rfl|m:=fI.1 m
     .exact s _ f
     exact s _ ((u c).1 m).1
    cases r
   rintro⟨t,rfl,j,g,p⟩;cases t with
   |nil=>
    exact absurd ((g _).2 (Bs.qA o)) (by simp)
   |cons a t=>
    have f:=(g a).1 (by simp);refine⟨a,Bs.pH.2 f,?_⟩;rw[aq ((PD _ _ _).2 fun c m=>p.1 c ((g c).2 m))];have w:=BU left a f;refine(KW n k _ _ _ (by omega)).2 ⟨t,by simp,(yx.1 j).2,fun b=>?_,p.2⟩;rw[lF,cH,QC,Bv.ik a b (Bx.mV f)];simp only[cH,lD,x8,Ro];constructor
    .intro q;have v:=(g b).1 (by simp[q]);exact⟨v,Bx.mV v,fun e=>(yx.1 j).1 (e▸q)⟩
    rintro⟨q,_,y⟩;obtain h|h:=fI.1 ((g b).2 q)
    .exact absurd h y
    exact h
end Rl
namespace np
structure fh(B:Nat)(ob fp gl fp':List Nat)(w w':World):Prop where
 size:w.1.size<=w'.1.size
 new:∀b∈fp',b∈fp\/b∈gl\/w.1.size<=b
 keep:∀b,B<=b\/b∈ob->b<w.1.size->b∉fp->b∉gl->w'.1[b]? =w.1[b]?
variable{α:Type}
def post(I:List α->List Nat->World->Prop)(Ix:Code->List α->World->Prop)(xs:List α)(G:List Nat->World->Prop):Exit->Act->World->Prop
 | .normal,_,W'=>∃e,I xs e W'/\G e W'
 | .ret,_,W'=>∃e,Ix .ret xs W'/\G e W'
 | .exit id,_,W'=>∃e,Ix (.exit id) xs W'/\G e W'
 | .goto t,_,W'=>∃e,Ix (.goto t) xs W'/\G e W'
 | .panic _,_,_=>False
 | .outgrown,_,_=>False
def Tp{I}{Ix}{xs:List α}{G G'}(h:∀f W,G f W->G' f W):∀e a W,post I Ix xs G e a W->post I Ix xs G' e a W
 | .normal,_,_,⟨f,a,b⟩=>⟨f,a,h _ _ b⟩
 | .ret,_,_,⟨f,a,b⟩=>⟨f,a,h _ _ b⟩
 | .exit _,_,_,⟨f,a,b⟩=>⟨f,a,h _ _ b⟩
 | .goto _,_,_,⟨f,a,b⟩=>⟨f,a,h _ _ b⟩
end np
namespace Rg
variable{F:Fence}{n:Nat}{P:Program}
structure Steps(B:Nat)(fp:List Nat)(w w':World):Prop where
 os:w'.os=w.os
 tape:w'.tape=w.tape
 output:w'.output=w.output
 size:w.1.size<=w'.1.size
 block:∀k,k<w.1.size->(k<B\/k∈fp)->w'.1[k]? =w.1[k]?
def Steps.refl(B)(fp)(w):Steps B fp w w:=⟨rfl,rfl,rfl,av _,fun _ _ _=>rfl⟩
def Steps.t{B}{fp}{w w1 w2}(h:Steps B fp w w1)(k:Steps B fp w1 w2):Steps B fp w w2:=
 ⟨k.os.t h.os,k.tape.t h.tape,k.output.t h.output,aO h.size k.size,fun j f i=>(k.block j (aW f h.size) i).t (h.block j f i)⟩
def Steps.gz{B}{fp}{w f:World}(h:Below w w f):Steps B fp w f:=⟨h.os,h.tape,h.output,h.size,fun k i _=>h.block k i⟩
def Steps.less{B B'}{fp}{w w'}(h:Steps B fp w w')(f:B'<=B):Steps B' fp w w':=
 ⟨h.os,h.tape,h.output,h.size,fun k i r=>h.block k i (r.elim (fun h=> .inl (aW h f)) .inr)⟩
structure fh(B:Nat)(fp fp':List Nat)(w w':World):Prop where
 size:w.1.size<=w'.1.size
 new:∀b∈fp',b∈fp\/w.1.size<=b
 keep:∀b,B<=b->b<w.1.size->b∉fp->w'.1[b]? =w.1[b]?
def fh.more{B B'}{fp fp'}{w w'}(h:fh B fp fp' w w')(f:B<=B'):fh B' fp fp' w w':=⟨h.size,h.new,fun b h1=>h.keep b (aO f h1)⟩
def mH{α:Type}(F:Fence)(n:Nat)(P:Program)(g:Nat)(lb:Array Value)(Pv:α->Value->World->Prop)(xs:List α)(T:List Nat->World->Prop)(w0:World):Prop:=
 ∀(l:Nat)(f:List α->List Nat->World->Prop)(i:List α->World->Prop)(fp:List Nat)(W:World),Below w0 w0 W->(∀b∈fp,b<W.1.size)->
  (∀pre fp W1,f pre fp W1->T fp W1)->
  (∀pre fp W1 h,f pre fp W1->Steps W.1.size fp W1 h->f pre fp h)->
  (∀pre fp x v W1,f pre fp W1->W.1.size<=W1.1.size->pre++[x]<+:xs->Pv x v W1->YieldAt F (n-1) P l #[v] W1 fun e W'=>
    (e= .returned (.bool true)/\∃h,f (pre++[x]) h W'/\fh W.1.size fp h W1 W')\/(e= .returned (.bool false)/\i (pre++[x]) W'))->
  f [] fp W->
  CallsIn F n P g (#[.func (.yield l) #[] #[]]++lb) W fun e W'=>(∃v,e= .returned v)/\((∃h,f xs h W')\/(∃pre,pre<+:xs/\i pre W'))
def post{α:Type}(B:Nat)(I:List α->List Nat->World->Prop)(Ix:Code->List α->World->Prop)(xs:List α)(fp:List Nat)(W:World):=np.post I Ix xs fun e W'=>fh B fp e W W'
end Rg
namespace qc
structure Steps(B:Nat)(ob fp:List Nat)(w w':World):Prop where
 os:w'.os=w.os
 tape:w'.tape=w.tape
 output:w'.output=w.output
 size:w.1.size<=w'.1.size
 block:∀k,k<w.1.size->(k<B/\k∉ob\/k∈fp)->w'.1[k]? =w.1[k]?
def Steps.gz{B}{ob fp}{w f:World}(h:Below w w f):Steps B ob fp w f:=⟨h.os,h.tape,h.output,h.size,fun k i _=>h.block k i⟩
def Steps.bZ{B}{fp}{w w'}(h:Steps B [] fp w w'):Rg.Steps B fp w w':=⟨h.os,h.tape,h.output,h.size,fun k f i=>h.block k f (i.imp (fun h=>⟨h,by simp⟩) id)⟩
structure fh(B:Nat)(ob fp fp':List Nat)(w w':World):Prop where
 size:w.1.size<=w'.1.size
 new:∀b∈fp',b∈fp\/w.1.size<=b
 keep:∀b,(B<=b\/b∈ob)->b<w.1.size->b∉fp->w'.1[b]? =w.1[b]?
def post{α:Type}(B:Nat)(ob:List Nat)(I:List α->List Nat->World->Prop)(Ix:Code->List α->World->Prop)(xs:List α)(fp:List Nat)(W:World):=np.post I Ix xs fun e W'=>fh B ob fp e W W'
def mH{α:Type}(F:Fence)(n:Nat)(P:Program)(g:Nat)(lb:Array Value)(Pv:α->Value->Value->World->Prop)(xs:List α)(ob:List Nat)(T:List Nat->World->Prop)(w0:World):Prop:=
 ∀(l:Nat)(f:List α->List Nat->World->Prop)(i:List α->World->Prop)(fp:List Nat)(W:World),Below w0 w0 W->(∀b∈fp,b<W.1.size)->
  (∀pre fp W1,f pre fp W1->T fp W1)->
  (∀pre fp W1 h,f pre fp W1->Steps W.1.size ob fp W1 h->f pre fp h)->
  (∀pre fp x v u W1,f pre fp W1->W.1.size<=W1.1.size->pre++[x]<+:xs->Pv x v u W1->YieldAt F (n-1) P l #[v,u] W1 fun e W'=>
    (e= .returned (.bool true)/\∃h,f (pre++[x]) h W'/\fh W.1.size ob fp h W1 W')\/(e= .returned (.bool false)/\i (pre++[x]) W'))->
  f [] fp W->
  CallsIn F n P g (#[.func (.yield l) #[] #[]]++lb) W fun e W'=>(∃v,e= .returned v)/\((∃h,f xs h W')\/(∃pre,pre<+:xs/\i pre W'))
end qc
namespace tx
def afq{P}{k m l}{l'}{f}{tmps}{assign body}{w}{R}(h:RoundIn Fence.wide k P l f tmps assign body w R):RoundIn (Fence.wide.inRound l') m P l f tmps assign body w R:=
 ⟨h.1,fun c cs _=>h.2 c cs (room_wide _)⟩
abbrev fh(B:Nat):=np.fh B []
def post{α:Type}(B:Nat)(I:List α->List Nat->World->Prop)(Ix:Code->List α->World->Prop)(xs:List α)(fp e:List Nat)(W:World):=np.post I Ix xs fun f W'=>fh B fp e f W W'
def mH{α:Type}(F:Fence)(n:Nat)(P:Program)(g:Nat)(lb:Array Value)(Pv:α->List Nat->Value->World->Prop)(xs:List α)(T:List Nat->World->Prop)(w0:World):Prop:=
 ∀(l:Nat)(f:List α->List Nat->World->Prop)(i:List α->World->Prop)(fp:List Nat)(W:World),Below w0 w0 W->(∀b∈fp,b<W.1.size)->
  (∀pre fp W1,f pre fp W1->T fp W1)->
  (∀pre fp W1 h,f pre fp W1->Rg.Steps W.1.size fp W1 h->f pre fp h)->
  (∀pre fp x j v W1,f pre fp W1->W.1.size<=W1.1.size->pre++[x]<+:xs->Pv x j v W1->(∀b∈j,W.1.size<=b/\b<W1.1.size/\b∉fp)->YieldAt F (n-1) P l #[v] W1 fun e W'=>
    (e= .returned (.bool true)/\∃h,f (pre++[x]) h W'/\fh W.1.size fp j h W1 W')\/(e= .returned (.bool false)/\i (pre++[x]) W'/\∃h,fh W.1.size fp j h W1 W'))->
  (∀pre W1 l o o',W.1.size<=l->W1.1[l]? =some o->o.isCells=false->i pre W1->i pre (W1.putObj l o'))->
  f [] fp W->
  CallsIn F n P g (#[.func (.yield l) #[] #[]]++lb) W fun e W'=>(∃v,e= .returned v)/\((∃h,f xs h W')\/(∃pre,pre<+:xs/\i pre W'))
end tx
namespace np
variable{F:Fence}{n:Nat}{P:Program}{α:Type}
def mH(F:Fence)(n:Nat)(P:Program)(g:Nat)(lb:Array Value)(Pv:α->List Nat->Array Value->World->Prop)(xs:List α)(ob:List Nat)(T:List Nat->World->Prop)(w0:World):Prop:=
 ∀(l:Nat)(f:List α->List Nat->World->Prop)(i:List α->World->Prop)(fp:List Nat)(W:World),Below w0 w0 W->(∀b∈fp,b<W.1.size)->
  (∀pre fp W1,f pre fp W1->T fp W1)->
  (∀pre fp W1 h,f pre fp W1->qc.Steps W.1.size ob fp W1 h->f pre fp h)->
  (∀pre fp x j v W1,f pre fp W1->W.1.size<=W1.1.size->pre++[x]<+:xs->Pv x j v W1->(∀b∈j,W.1.size<=b/\b<W1.1.size/\b∉fp)->YieldAt F (n-1) P l v W1 fun e W'=>
    (e= .returned (.bool true)/\∃h,f (pre++[x]) h W'/\fh W.1.size ob fp j h W1 W')\/(e= .returned (.bool false)/\i (pre++[x]) W'/\∃h,fh W.1.size ob fp j h W1 W'))->
  (∀pre W1 l o o',W.1.size<=l->W1.1[l]? =some o->o.isCells=false->i pre W1->i pre (W1.putObj l o'))->
  f [] fp W->
  CallsIn F n P g (#[.func (.yield l) #[] #[]]++lb) W fun e W'=>(∃v,e= .returned v)/\((∃h,f xs h W')\/(∃pre,pre<+:xs/\i pre W'))
variable{g:Operand}{ps:Array Tmp}{assign body:Code}{Q:Exit->Act->World->Prop}{a:Act}{w:World}
 (hro:F.round=none)(h1:1<=n){gf:Nat}{lb:Array Value}(hg:a.eval g= .func (.func gf) #[] lb)(hFg:F.fn gf)(eg:∀args w,(callFunc gf args).run P w= .ok (.enter gf args) w)
 {xs:List α}{T:List Nat->World->Prop}{w0:World}(hb0:Below w0.1.size w0 w)(I:List α->List Nat->World->Prop)(Ix:Code->List α->World->Prop)
 (hIT:∀pre fp W,I pre fp W->T fp W)
 (hIx:∀c pre(W:World) l o o',w.1.size<=l->W.1[l]? =some o->o.isCells=false->Ix c pre W->Ix c pre (W.putObj l o'))
 (fp0:List Nat)(hfp:∀b∈fp0,b<w.1.size)(h0:I [] fp0 w)
 (hdone:∀(D:Nat)(fp:List Nat)(W:World),w.1.size<=D->I xs fp W->D∉fp->W.1[D]? =some (.deferred (some []))->Q .normal {a with defers:={target:= .collected D,args:=#[]}::a.defers} W)
 (hstop:∀(D:Nat)(c:Code)(pre:List α)(W:World),w.1.size<=D->pre<+:xs->Ix c pre W->W.1[D]? =some (.deferred (some []))->c.wpIn F n P Q {a with defers:={target:= .collected D,args:=#[]}::a.defers} W)
include hro h1 hg hFg eg hb0 hIT hIx hfp h0 hdone hstop
def law{Pv:α->List Nat->Array Value->World->Prop}{ob:List Nat}(ar:mH F (n-1) P gf lb Pv xs ob T w0)(ai:∀b∈ob,b<w.1.size)
 (au:∀x i v W,Pv x i v W->v.size=ps.size)
 (aw:∀x i v(W:World) l o o',W.1[l]? =some o->o.isCells=false->Pv x i v W->Pv x i v (W.putObj l o'))
 (ab:∀pre fp W W',I pre fp W->qc.Steps w.1.size ob fp W W'->I pre fp W')
 (A:World->World->Prop)(ax:∀W W',A W W'->Below W.1.size W W')(j:Array Value->Act->World->Prop)
 (ay:∀(l:Nat)(x:α)(i:List Nat)(v:Array Value)(W:World)(K:Act->World->Prop),Pv x i v W->(∀s W',A W W'->j v s W'->K s W')->
   assign.wpIn (F.inRound l) (n-1-1) P (Exit.then K (fun _ _ _=>False)) {tmps:=(ps.zip v).foldl (fun t(p,v)=>t.setIfInBounds p v) a.tmps,defers:=[]} W)
 (az:∀v a(W:World) l o o',W.1[l]? =some o->o.isCells=false->j v a W->j v a (W.putObj l o'))
 (aA:∀x i v(W W':World),A W W'->Pv x i v W->Pv x i v W')
 (aB:∀(l:Nat)(pre:List α)(fp:List Nat)(x:α)(i:List Nat)(v:Array Value)(s:Act)(W:World),I pre fp W->pre++[x]<+:xs->Pv x i v W->j v s W->w.1.size+2<=W.1.size->(∀b∈fp,b<w.1.size\/w.1.size+2<=b)->(∀b∈i,w.1.size+2<=b/\b<W.1.size/\b∉fp)->
   body.wpIn (F.inRound l) (n-1-1) P (post I Ix (pre++[x]) fun f W'=>fh w.1.size ob fp i f W W') s W):
 (Code.rangeFunc g ps assign body).wpIn F n P Q a w:=by
 refine wpIn_rangeFunc ?_;intro fn aC;rw[hro];have⟨m,u⟩:=eX (fun j q=>{state:=j,pending:=q,fn,tmps:=a.tmps,params:=ps,assign,body,defers:=w.1.size}:LoopState->Option Code->Loop);obtain⟨W1,R⟩:∃W1,(w.alloc (.deferred (some []))).alloc (.loop (m .ready none))=W1:=⟨_,rfl⟩
 have aD:W1.1.size=w.1.size+2:=by rw[<-R];simp
 have aE:W1.1[w.1.size+1]? =some (.loop (m .ready none)):=by
  rw[<-R];have:=jZ (w.alloc (.deferred (some []))) (.loop (m .ready none));rwa[cT]at this
 have aF:W1.1[w.1.size]? =some (.deferred (some [])):=by
  rw[<-R];exact(fF _ _ _ (by simp)).t (jZ w _)
 have an:Below w w W1:=by
  rw[<-R];exact((ba w _).alloc (by simp) _)
 have aG:I [] fp0 W1:=ab _ _ _ _ h0 (.gz an);have aH:Below w0 w0 W1:=hb0.t (an.m hb0.size);have put:∀{pre:List α}{fp:List Nat}{W:World}(o':Obj),(∀b∈fp,b<w.1.size\/w.1.size+2<=b)->I pre fp W->I pre fp (W.putObj (w.1.size+1) o'):=fun{pre fp W} o' y J=>
  ab _ _ _ _ J ⟨rfl,rfl,rfl,by simp[World.putObj],fun k C j=>dX (by
   obtain⟨j,_⟩|j:=j
   .omega
   .obtain h|h:=y k j<;>omega)⟩
 refine⟨w.1.size+1,[{target:= .collected w.1.size,args:=#[]}],W1,{target:= .fn (.func gf) lb,args:=#[.func (.yield (w.1.size+1)) #[] #[]]},W1,gf,
  #[.func (.yield (w.1.size+1)) #[] #[]]++lb,W1,?_,?_,?_,?_,fun _=>h1,?_⟩
 .rw[<-R,u];exact run_enterLoop_outer _ _ _ _ _
 .simp only[resolve,hg];simp[go_sem]
 .intro aX X;simp[Target.leads]at X;subst X;exact hFg
 .simp[invoke,go_sem,eg]
 refine(ar (w.1.size+1)
  (fun pre fp W=>I pre fp W/\(∀b∈fp,b<w.1.size\/w.1.size+2<=b)/\W.1[w.1.size+1]? =some (.loop (m .ready none))/\W.1[w.1.size]? =some (.deferred (some [])))
  (fun pre W=>∃c,Ix c pre W/\W.1[w.1.size+1]? =some (.loop (m .done (some c)))/\W.1[w.1.size]? =some (.deferred (some [])))
  fp0 W1 aH (fun b r=>by have:=hfp b r;omega) (fun pre fp W h=>hIT pre fp W h.1)
  (fun pre fp A B z q=>⟨ab _ _ _ _ z.1 ⟨q.os,q.tape,q.output,q.size,fun k C j=>q.block k C (j.imp (fun h=>⟨by omega,h.2⟩) id)⟩,z.2.1,(q.block _ (gS.1 z.2.2.1).1 (.inl ⟨by omega,fun h=>by have:=ai _ h;omega⟩)).t z.2.2.1,(q.block _ (gS.1 z.2.2.2).1 (.inl ⟨by omega,fun h=>by have:=ai _ h;omega⟩)).t z.2.2.2⟩)
  ?_ (fun pre A l o o' z q j ⟨c,h1,L,aa⟩=>⟨c,hIx _ _ _ _ _ _ (by omega) q j h1,(dX (by omega)).t L,(dX (by omega)).t aa⟩) ⟨aG,fun b r=> .inl (hfp b r),aE,aF⟩).m ?_
 .rintro pre fp x i v aj ⟨aI,y,ak,aJ⟩ aY al am ad;rw[aD]at ad;have aK:w.1.size+1<aj.1.size:=(gS.1 ak).1;have ao:=run_yield (P:=P) (args:=v) ak (by rw[u];exact au _ _ _ _ am);rw[u]at ao;refine⟨fn,_,assign,body,ao,roundIn_of_wpIn aC (ay _ x i v aj _ am fun s W ap aL=>?_)⟩;have E:=ax _ _ ap;have z:W.1[w.1.size+1]? =some (.loop (m .ready none)):=(E.block _ aK).t ak;have C:W.1[w.1.size]? =some (.deferred (some [])):=(E.block _ (by omega)).t aJ;have J:I pre fp W:=ab _ _ _ _ aI (.gz E);have aM:=aA _ _ _ _ _ ap am;have ae:∀b∈i,w.1.size+2<=b/\b<W.1.size/\b∉fp:=fun b r=>⟨(ad b r).1,aW (ad b r).2.1 E.size,(ad b r).2.2⟩
  have aN:w.1.size+1<W.1.size:=(gS.1 z).1;have af:∀{B:Nat}{f:List Nat}{W3:World},fh B ob fp i f W W3->fh B ob fp i f aj W3:=fun{B f W3} h=>
   ⟨aO E.size h.size,fun b r=>(h.new b r).imp id (Or.imp id (aO E.size)),fun b h1 L aa M=>(h.keep b h1 (aW L E.size) aa M).t (E.block b L)⟩
  refine⟨_,run_beginRound z (by rw[u]),?_⟩;have aP:(W.putObj (w.1.size+1) (.loop {m .ready none with state:= .busy})).1[w.1.size+1]? =some (.loop {m .ready none with state:= .busy}):=PT aN;have aQ:(W.putObj (w.1.size+1) (.loop {m .ready none with state:= .busy})).1[w.1.size]? =some (.deferred (some [])):=(dX (by omega)).t C;have H:(W.putObj (w.1.size+1) (.loop {m .ready none with state:= .busy})).1.size=W.1.size:=by simp[World.putObj]
  refine wpIn_mono (aB _ pre fp x i v _ _ (put _ y J) al (aw _ _ _ _ _ _ _ z rfl aM) (az _ _ _ _ _ _ z rfl aL) (by rw[H];omega) y (fun b r=>by rw[H];exact ae b r)) ?_;have aR:w.1.size+1∉fp:=fun h=>by obtain h|h:=y _ h<;>omega
  have aS:w.1.size∉fp:=fun h=>by obtain h|h:=y _ h<;>omega
  have aT:w.1.size+1∉i:=fun h=>by have:=(ae _ h).1;omega
  have aU:w.1.size∉i:=fun h=>by have:=(ae _ h).1;omega
  have ag:∀(q:Option Code)(f:List Nat)(W3:World),fh w.1.size ob fp i f (W.putObj (w.1.size+1) (.loop {m .ready none with state:= .busy})) W3->
   (Instr.endRound (w.1.size+1) q).run P W3= .ok (.bool q.isNone) (W3.putObj (w.1.size+1) (.loop (m (if q.isNone then .ready else .done) q)))/\
   W3.1[w.1.size+1]? =some (.loop {m .ready none with state:= .busy})/\
   (W3.putObj (w.1.size+1) (.loop (m (if q.isNone then .ready else .done) q))).1[w.1.size+1]? =some (.loop (m (if q.isNone then .ready else .done) q))/\
   (W3.putObj (w.1.size+1) (.loop (m (if q.isNone then .ready else .done) q))).1[w.1.size]? =some (.deferred (some [])):=fun q f W3 j=>by
   have s:=(j.keep _ (.inl (by omega)) (by rw[H];omega) aR aT).t aP;have aV:=(j.keep _ (.inl (by omega)) (by rw[H];omega) aS aU).t aQ;have:=run_endRound (P:=P) q s;rw[u]at this⊢;exact⟨this,by rw[u]at s;exact s,PT (gS.1 s).1,(dX (by omega)).t aV⟩
  have ah:∀(q:Option Code)(f:List Nat)(W3:World),fh w.1.size ob fp i f (W.putObj (w.1.size+1) (.loop {m .ready none with state:= .busy})) W3->
   fh W1.1.size ob fp i f W (W3.putObj (w.1.size+1) (.loop (m (if q.isNone then .ready else .done) q))):=fun q f W3 j=>by
   refine⟨?_,fun b r=>?_,fun b h1 L aa M=>?_⟩
   .have:=j.size;rw[H]at this;simpa[World.putObj]using this
   .have:=j.new b r;rwa[H]at this
   have aq:b≠w.1.size+1:=by
    obtain h|h:=h1
    .omega
    have:=ai b h;omega
   rw[dX aq,j.keep b (h1.imp (fun h=>by omega) id) (by rw[H];exact L) aa M,dX aq]
  rintro e aZ W3 O;cases e with
  |normal=>
   obtain⟨f,i,j⟩:=O;have⟨L,s,M,N⟩:=ag none f W3 j;have X:∀b∈f,b<w.1.size\/w.1.size+2<=b:=fun b r=>by
    obtain h|h|h:=j.new b r
    .exact y b h
    .exact .inr (ae b h).1
    rw[H]at h;omega
   refine⟨_,_,L,.inl ⟨rfl,f,⟨put _ X i,X,M,N⟩,af (ah none f W3 j)⟩⟩
  |ret=>
   obtain⟨f,i,j⟩:=O;have⟨L,s,M,N⟩:=ag (some .ret) f W3 j;exact⟨_,_,L,.inr ⟨rfl,⟨.ret,hIx _ _ _ _ _ _ (by omega) s rfl i,M,N⟩,f,af (ah _ f W3 j)⟩⟩
  |exit id=>
   obtain⟨f,i,j⟩:=O;have⟨L,s,M,N⟩:=ag (some (.exit id)) f W3 j;exact⟨_,_,L,.inr ⟨rfl,⟨.exit id,hIx _ _ _ _ _ _ (by omega) s rfl i,M,N⟩,f,af (ah _ f W3 j)⟩⟩
  |goto t=>
   obtain⟨f,i,j⟩:=O;have⟨L,s,M,N⟩:=ag (some (.goto t)) f W3 j;exact⟨_,_,L,.inr ⟨rfl,⟨.goto t,hIx _ _ _ _ _ _ (by omega) s rfl i,M,N⟩,f,af (ah _ f W3 j)⟩⟩
  |panic r=>exact O.elim
  |outgrown=>exact O.elim
 rintro e aa ⟨⟨v,rfl⟩,(⟨f,J,y,z,C⟩|⟨pre,al,c,J,z,C⟩)⟩
 .exact⟨none,_,by have:=run_endLoop (P:=P) z (by rw[u];simp);rw[u]at this;exact this,hdone _ _ _ (av _) (put _ y J) (fun h=>by obtain h|h:=y _ h<;>omega) ((dX (by omega)).t C)⟩
 exact⟨some c,_,by have:=run_endLoop (P:=P) z (by rw[u];simp);rw[u]at this;exact this,hstop _ c pre _ (av _) al (hIx _ _ _ _ _ _ (by omega) z rfl J) ((dX (by omega)).t C)⟩
def one{Pv}(q:Rg.mH F (n-1) P gf lb Pv xs T w0)(O:1=ps.size)
 (r:∀x v(W:World) l o o',W.1[l]? =some o->o.isCells=false->Pv x v W->Pv x v (W.putObj l o'))
 (y:∀pre fp W W',I pre fp W->Rg.Steps w fp W W'->I pre fp W')(b:Value->Act)
 (z:∀(l:Nat)(v:Value)(W:World)(K:Act->World->Prop),K (b v) W->assign.wpIn (F.inRound l) (n-1-1) P (Exit.then K (fun _ _ _=>False)) {tmps:=(ps.zip #[v]).foldl (fun t(p,v)=>t.setIfInBounds p v) a.tmps,defers:=[]} W)
 (C:∀(l:Nat)(pre:List α)(fp:List Nat)(x:α)(v:Value)(W:World),I pre fp W->pre++[x]<+:xs->Pv x v W->w.1.size+2<=W->(∀b∈fp,b<w\/w+2<=b)->
   body.wpIn (F.inRound l) (n-1-1) P (Rg.post w I Ix (pre++[x]) fp W) (b v) W):
 (Code.rangeFunc g ps assign body).wpIn F n P Q a w:=
 law hro h1 hg hFg eg hb0 I Ix hIT hIx fp0 hfp h0 hdone hstop (Pv:=fun x i v W=>i=[]/\∃u,v=#[u]/\Pv x u W) (ob:=[])
  (fun l E _ fp W H J L M N _ h0=>q l E _ fp W H J L (fun _ _ _ _ h s=>M _ _ _ _ h ⟨s.os,s.tape,s.output,s.size,fun k h c=>s.block k h (c.imp And.left id)⟩) (fun pre fp x v A h1 i j m=>(N pre fp x [] #[v] A h1 i j ⟨rfl,v,rfl,m⟩ (by simp)).m fun _ _ h=>h.imp (fun⟨a,f,b,g⟩=>⟨a,f,b,g.size,by simpa using g.new,fun b h1 i j=>g.keep b (.inl h1) i j (by simp)⟩) fun h=>⟨h.1,h.2.1⟩) h0)
  (by simp) (by grind) (fun _ _ _ _ _ _ _ h1 i ⟨h,u,e,j⟩=>⟨h,u,e,r _ _ _ _ _ _ h1 i j⟩) (fun _ _ _ _ h s=>y _ _ _ _ h s.bZ)
  Eq (fun _ _ e=>e▸aP _ _) (fun v a _=>∃u,v=#[u]/\a=b u) (by rintro l x _ _ W K ⟨_,u,rfl,h⟩ k;exact z l u W K (k _ _ rfl ⟨u,rfl,rfl⟩)) (fun _ _ _ _ _ _ _ _ h=>h) (fun _ _ _ _ _ e h=>e▸h)
  (by rintro l pre fp x _ _ _ W h1 i ⟨rfl,u,rfl,j⟩ ⟨v,e,rfl⟩ m E _;cases e;exact wpIn_mono (C l pre fp x u W h1 i j m E) (Tp fun f W g=>⟨g.size,fun b h=>(g.new b h).imp id .inr,fun b h1 i j _=>g.keep b (h1.elim id (by simp)) i j⟩))
def two{Pv}{ob}(s:qc.mH F (n-1) P gf lb Pv xs ob T w0)(y:∀b∈ob,b<w)(i:2=ps.size)
 (C:∀x v u(W:World) l o o',W.1[l]? =some o->o.isCells=false->Pv x v u W->Pv x v u (W.putObj l o'))
 (E:∀pre fp W W',I pre fp W->qc.Steps w ob fp W W'->I pre fp W')
 (A:World->World->Prop)(H:∀W W',A W W'->Below W W W')(q:Value->Value->Act->World->Prop)
 (J:∀(l:Nat)(x:α)(v u:Value)(W:World)(K:Act->World->Prop),Pv x v u W->(∀m W',A W W'->q v u m W'->K m W')->
   assign.wpIn (F.inRound l) (n-1-1) P (Exit.then K (fun _ _ _=>False)) {tmps:=(ps.zip #[v,u]).foldl (fun t(p,v)=>t.setIfInBounds p v) a.tmps,defers:=[]} W)
 (L:∀v u a(W:World) l o o',W.1[l]? =some o->o.isCells=false->q v u a W->q v u a (W.putObj l o'))
 (M:∀x v u(W W':World),A W W'->Pv x v u W->Pv x v u W')
 (N:∀(l:Nat)(pre:List α)(fp:List Nat)(x:α)(v u:Value)(m:Act)(W:World),I pre fp W->pre++[x]<+:xs->Pv x v u W->q v u m W->w.1.size+2<=W->(∀b∈fp,b<w\/w+2<=b)->
   body.wpIn (F.inRound l) (n-1-1) P (qc.post w ob I Ix (pre++[x]) fp W) m W):
 (Code.rangeFunc g ps assign body).wpIn F n P Q a w:=
 law hro h1 hg hFg eg hb0 I Ix hIT hIx fp0 hfp h0 hdone hstop (Pv:=fun x i v W=>i=[]/\∃u z,v=#[u,z]/\Pv x u z W)
  (fun l O _ fp W R X aa ab ad _ h0=>s l O _ fp W R X aa ab (fun pre fp x v u A h1 i j r=>(ad pre fp x [] #[v,u] A h1 i j ⟨rfl,v,u,rfl,r⟩ (by simp)).m fun _ _ h=>h.imp (fun⟨a,f,b,g⟩=>⟨a,f,b,g.size,by simpa using g.new,fun b h1 i j=>g.keep b h1 i j (by simp)⟩) fun h=>⟨h.1,h.2.1⟩) h0)
  y (by grind) (fun _ _ _ _ _ _ _ h1 i ⟨h,u,z,e,j⟩=>⟨h,u,z,e,C _ _ _ _ _ _ _ h1 i j⟩) E
  A H (fun v a W=>∃u z,v=#[u,z]/\q u z a W) (by rintro l x _ _ W K ⟨_,u,z,rfl,h⟩ k;exact J l x u z W K h fun m W' h1 i=>k _ _ h1 ⟨u,z,rfl,i⟩) (fun _ _ _ _ _ _ h1 i ⟨u,z,e,h⟩=>⟨u,z,e,L _ _ _ _ _ _ _ h1 i h⟩) (fun _ _ _ _ _ e ⟨h,u,z,h1,i⟩=>⟨h,u,z,h1,M _ _ _ _ _ e i⟩)
  (by rintro l pre fp x _ _ m W h1 i ⟨rfl,u,z,rfl,j⟩ ⟨_,_,e,q⟩ r O _;cases e;exact wpIn_mono (N l pre fp x u z m W h1 i j q r O) (Tp fun f W g=>⟨g.size,fun b h=>(g.new b h).imp id .inr,fun b h1 i j _=>g.keep b h1 i j⟩))
def bZ{Pv}(r:tx.mH F (n-1) P gf lb Pv xs T w0)(ad:1=ps.size)
 (y:∀x f v(W:World) l o o',W.1[l]? =some o->o.isCells=false->Pv x f v W->Pv x f v (W.putObj l o'))
 (z:∀pre fp W W',I pre fp W->Rg.Steps w fp W W'->I pre fp W')(m:Value->Act->World->Prop)
 (C:∀(l:Nat)(x:α)(f:List Nat)(v:Value)(W:World)(K:Act->World->Prop),Pv x f v W->(∀j W',Below W W W'->m v j W'->K j W')->
   assign.wpIn (F.inRound l) (n-1-1) P (Exit.then K (fun _ _ _=>False)) {tmps:=(ps.zip #[v]).foldl (fun t(p,v)=>t.setIfInBounds p v) a.tmps,defers:=[]} W)
 (E:∀v a(W:World) l o o',W.1[l]? =some o->o.isCells=false->m v a W->m v a (W.putObj l o'))
 (H:∀x f v(W W':World),Below W W W'->Pv x f v W->Pv x f v W')
 (J:∀(l:Nat)(pre:List α)(fp:List Nat)(x:α)(f:List Nat)(v:Value)(j:Act)(W:World),I pre fp W->pre++[x]<+:xs->Pv x f v W->m v j W->w.1.size+2<=W->(∀b∈fp,b<w\/w+2<=b)->(∀b∈f,w+2<=b/\b<W/\b∉fp)->
   body.wpIn (F.inRound l) (n-1-1) P (tx.post w I Ix (pre++[x]) fp f W) j W):
 (Code.rangeFunc g ps assign body).wpIn F n P Q a w:=
 law hro h1 hg hFg eg hb0 I Ix hIT hIx fp0 hfp h0 hdone hstop (Pv:=fun x f v W=>∃u,v=#[u]/\Pv x f u W) (ob:=[])
  (fun l L _ fp W M N O R X aa h0=>r l L _ fp W M N O (fun _ _ _ _ h s=>R _ _ _ _ h ⟨s.os,s.tape,s.output,s.size,fun k h c=>s.block k h (c.imp And.left id)⟩) (fun pre fp x f v A h1 i q ab=>X pre fp x f #[v] A h1 i q ⟨v,rfl,ab⟩) aa h0)
  (by simp) (by grind) (fun _ _ _ _ _ _ _ h1 i ⟨u,e,q⟩=>⟨u,e,y _ _ _ _ _ _ _ h1 i q⟩) (fun _ _ _ _ h s=>z _ _ _ _ h s.bZ)
  _ (fun _ _ h=>h) (fun v a W=>∃u,v=#[u]/\m u a W) (by rintro l x f _ W K ⟨u,rfl,h⟩ k;exact C l x f u W K h fun j W' h1 i=>k _ _ h1 ⟨u,rfl,i⟩) (fun _ _ _ _ _ _ h1 i ⟨u,e,h⟩=>⟨u,e,E _ _ _ _ _ _ h1 i h⟩) (fun _ _ _ _ _ e ⟨u,h1,i⟩=>⟨u,h1,H _ _ _ _ _ e i⟩)
  (by rintro l pre fp x f _ j W h1 i ⟨u,rfl,q⟩ ⟨_,e,m⟩;cases e;exact J l pre fp x f u j W h1 i q m)
end np
section
attribute [local go_sem] Bv.fE Bv.fO Bv.fA Bv.fL Bv.fC Bv.fP Bv.fQ
structure bh(w:World):Prop where
 t64:∀i,i<64->w.cell? ⟨2,i,none⟩=some (.int .u8 (Lib.deBruijn64tab.getD i 0:Nat))
 t32:∀i,i<32->w.cell? ⟨1,i,none⟩=some (.int .u8 (Lib.deBruijn32tab.getD i 0:Nat))
 FA:∀i,i<9->w.cell? ⟨0,i,none⟩=some (.int .u8 ([0,35,38,29,7,7,15,32,92].getD i 0:Nat))
def bh.Z{n}{w w'}(h:bh w)(f:Below n w w')(g:2<n):bh w':=
 ⟨fun i hi=>(f.C (p:=⟨2,i,none⟩) (nh (Fv rfl) g)).t (h.t64 i hi),
  fun i hi=>(f.C (p:=⟨1,i,none⟩) (nh (Fv rfl) g)).t (h.t32 i hi),
  fun i hi=>(f.C (p:=⟨0,i,none⟩) (nh (Fv rfl) g)).t (h.FA i hi)⟩
def bh.lt{w}(h:bh w):2<w.1.size:=
 nh (Fv rfl) (oU w _ (h.t64 0 (dr rfl)))
def M8(s)(w)(a:s≠0)(c:bh w):
 Calls prog 221 #[.int .u64 (Bv.U s)] w fun e m=>e=(Value.int .i64 (Bs.low s:Nat))/\m=w:=by
 have:(s==0#64)=false:=by grind
 have⟨k,f⟩:=eX (2^Bs.low s*285870213051353865%18446744073709551616/288230376151711744:Nat);have g:=Bs.Hg a;have⟨h,b⟩:=Lib.deBruijn64_at (Bs.low s) g;rw[<-f]at h b;have:IntKind.u64.wrap (Bv.U (s&&& -s)*285870213051353865)/288230376151711744=(k:Int):=by
  have:=Bs.afm s a;have i:=Bv.wrap_mul (s&&& -s) 285870213051353865#64;have n:Bv.U 285870213051353865#64=285870213051353865:=rfl;rw[n]at i;rw[i];unfold Bv.U;omega
 have j:=c.t64 k h;rw[b]at j;have⟨d,l⟩:=eX (Bs.low s);rw[<-l]at j g⊢;clear f b c l a;go_enter func221,ntmps221;go_wp2;go_ret;exact⟨rfl,rfl⟩
end
namespace Rf
variable{F:Fence}{n:Nat}{P:Program}
def IV{w:World}{b i}{cs}{t}{fr}(u)(h:w.1[b]? =some (.cells cs t fr)):(w.setCell ⟨b,i,none⟩ u).1[b]? =some (.cells (cs.setIfInBounds i u) t fr):=by
 show(w.1.modify b _)[b]? =_
 grind
end Rf
section
attribute [local go_sem] Oper.semAt_some
attribute [local go_sem] Bv.fE Bv.fO Bv.fA Bv.fL Bv.fC Bv.gn Bv.fP Bv.fQ
def Ch:Value->Nat
 | .int _ z=>(Bs.cZ (BitVec.ofInt 64 z)).length
 |_=>0
def vE(s):Ch (.int .u64 (Bv.U s))=(Bs.cZ s):=by simp[Ch,Bv.sM]
def Pq(s)(w):
 Calls prog 175 #[.int .u64 (Bv.U s)] w fun e a=>e= .returned (.func (.func 220) #[] #[.pointer w])/\a=w.alloc (.cells #[.int .u64 (Bv.U s)] 50):=by
 go_enter func175,ntmps175;go_wp2;go_ret;exact⟨rfl,rfl⟩
def acX(n:Nat)(l Bx r:Nat)(s:BitVec 64)(E:2<r)(f u:List Nat->World->Prop)
 (o:∀a(x:Nat) W,f a W->a.length<(Bs.cZ s).length->YieldAt Fence.wide (n-1) prog l #[.int .i64 x] W fun e W'=>
   (e= .returned (.bool true)/\f (a++[x]) W'/\Below r W W')\/(e= .returned (.bool false)/\u (a++[x]) W'))
 (W:World)(M:W.cell? Bx=some (.int .u64 (Bv.U s)))(F:bh W)(I:f [] W):
 CallsIn Fence.wide n prog 220 #[.func (.yield l) #[] #[],.pointer Bx] W fun e W'=>(∃v,e= .returned v)/\
  ((∃ys,ys=Bs.cZ s/\f ys W')\/(∃a,a<+:Bs.cZ s/\u a W')):=by
 refine rM func220 rfl trivial ?_ rfl;simp only[ntmps220,jC,gL,iP,Nat.reduceAdd,Nat.reduceSub,j8,j5,kh,kj,gG,iJ]
 gi_wp2
 gi_loopw [3] (fun p wr=>∃(a:List Nat)(t:BitVec 64),p= .int .u64 (Bv.U t)/\a++Bs.cZ t=Bs.cZ s/\f a wr/\bh wr) (fun p _=>Ch p)
 case atStart=>exact⟨[],s,rfl,rfl,I,F⟩
 obtain⟨a,t,rfl,c,w,g⟩:=hrel;by_cases b:t=0#64
 .have N:(t !=0#64)=false:=by simp[b]
  have O:(t==0#64)=true:=by simp[b]
  have i:a=Bs.cZ s:=by rw[<-c,b];simp[Bs.cZ]
  have J:=H i;clear b i c o
  gi_wp2
  go_end0
  exact⟨⟨_,rfl⟩,.inl ⟨_,J.y,w⟩⟩
 have:(t !=0#64)=true:=by simp[b]
 have:(t==0#64)=false:=by simp[b]
 have i:t≠0:=b;have j:=Bs.pA i;have:=Bs.Hg i;have y:a++[Bs.low t]<+:Bs.cZ s:=⟨Bs.cZ (Bs.rest t),by rw[<-c,j];simp⟩
 have z:a.length<(Bs.cZ s).length:=by rw[<-c,j];simp
 have A:=Bs.z8 i;have⟨fn,tmps,assign,body,C,q⟩:=o a (Bs.low t) wr w z;have m:=aY c j y A;have L:=H g;clear o c j y b z A
 gi_wp2
 refine⟨trivial,fun h=>(by cases h),?_⟩;refine(dh.2 (M8 _ _ i g)).m ?_;rintro e z ⟨rfl,rfl⟩
 gi_wp2_with fail
 try(refine⟨fun h=>(by cases h),?_⟩)
 refine q.m ?_;rintro e W3 (⟨rfl,j,b⟩|⟨rfl,o⟩)
 .have c:=L.y.Z b E;have y:=aA b c;clear b c q C g
  gi_wp2
  go_roundw
  case rel=>exact⟨a++[Bs.low t],Bs.rest t,rfl,by rw[<-m.a,m.b];simp,j,y.B⟩
  rw[vE t];exact nh (nJ (vE (Bs.rest t))) m.D
 clear q C g
 gi_wp2
 refine bK (ju rfl _ _ _) rfl ?_;exact⟨⟨_,rfl⟩,.inr ⟨a++[Bs.low t],m.c,o⟩⟩
def aa7(n)(Bx a:Nat)(s)(w:World)(c:Bx<w)(e:2<a)(o:a<=w)
 (f:w.cell? Bx=some (.int .u64 (Bv.U s)))(g:bh w):
 SeqStopsK Fence.wide n prog 220 #[.pointer Bx] (fun x:Nat=>#[Value.int .i64 x]) (Below a) (fun ys=>ys=Bs.cZ s) (fun b=>b<+:Bs.cZ s) (Bs.cZ s) w:=fun l h i W b _ _ j m=>
 acX n l Bx a s e h i j W ((b.C (p:=Bx) c).t f) (g.Z b (by omega)) m
end
section
attribute [local go_sem] Oper.semAt_some
attribute [local go_sem] Bv.fE Bv.fO Bv.fA Bv.fL Bv.fC Bv.gn Bv.fP Bv.fQ
def mJ(n:Int):BitVec 64:=Bv.bit (min n.toNat 64)-1#64
def y8(n:Int)(w):
 Calls prog 105 #[n] w fun e b=>e=(Value.int .u64 (Bv.U (mJ n)))/\b=w:=by
 by_cases n<1
 .have a:Bv.U (mJ n)=0:=by
   have:min n.toNat 64=0:=by omega
   unfold mJ;rw[this];rfl
  rw[a];go_enter func105,ntmps105;go_wp2;go_ret;simp_all
 by_cases 64<=n
 .have a:Bv.U (mJ n)=18446744073709551615:=by
   have:min n.toNat 64=64:=by omega
   unfold mJ;rw[this];rfl
  rw[a];go_enter func105,ntmps105;go_wp2;go_ret;simp_all
 have a:mJ n=Bv.bit n.toNat-1#64:=by
  have:min n.toNat 64=n.toNat:=by omega
  unfold mJ;rw[this]
 go_wp2;go_ret;simp_all
def zr:(prog.info? 3).map (fun i=>(i.zero,i.size,i.bytes))=some (some (.int .i64 0),1,8):=by kernel_rfl
def nums(l:List Nat):List Value:=l.map (fun k:Nat=>Value.int .i64 (k:Int))
def pG(l)(x:Nat):nums (l++[x])=nums l++[Value.int .i64 (x:Int)]:=by simp[nums]
end
section
attribute [local go_sem] Bv.fE Bv.fO Bv.fA Bv.fL Bv.fC Bv.gn Bv.fP Bv.fQ
def V7(x:Int)(b k:Nat)(w)(f:k<=64)(a:Boxed w b 3 (.int .i64 k)):
 Calls prog 178 #[x,.pointer b] w fun e c=>e=true/\c=w.setCell b ((k+1:Nat):Int):=by
 have:=a.C;have:=a.frozen;have e:((k+1:Nat):Int)=(k:Int)+1:=by omega
 rw[e];go_enter func178,ntmps178;go_wp2;go_ret;exact⟨rfl,rfl⟩
def adT(s)(Bx a n₀)(w)(y:w.cell? (Bx:Nat)=some (.int .u64 (Bv.U s)))(l:Boxed w a 3 (.int .i64 (0:Nat)))(m:n₀<=a)(n:2<n₀)(o:bh w):
 Calls prog 220 #[.func (.func 178) #[] #[.pointer (a:Nat)],.pointer (Bx:Nat)] w fun e c=>(∃v,e= .returned v)/\Boxed c a 3 (.int .i64 ↑(Bs.cZ s))/\Below n₀ w c:=by
 have:=Bs.L4 s;go_enter func220,ntmps220;go_wp2
 go_loopw [3] (fun p wr=>∃(k:Nat)(t:BitVec 64),p= .int .u64 (Bv.U t)/\k+↑(Bs.cZ t)=↑(Bs.cZ s)/\Boxed wr a 3 (.int .i64 k)/\Below n₀ w wr) (fun p _=>Ch p)
 case atStart=>exact⟨0,s,rfl,by simp,l,aP _ _⟩
 obtain⟨k,t,rfl,q,h,i⟩:=hrel;by_cases b:t=0#64
 .have z:(t !=0#64)=false:=by simp[b]
  have A:(t==0#64)=true:=by simp[b]
  have r:k=↑(Bs.cZ s):=by rw[<-q,b];simp[Bs.cZ]
  have j:=aD r h i;go_wp2
  go_end0
  exact⟨⟨_,rfl⟩,by rw[<-j.a];exact j.b,j.C⟩
 have:(t !=0#64)=true:=by simp[b]
 have:(t==0#64)=false:=by simp[b]
 have f:=b;have:=Bs.pA f;have:=Bs.Hg f;have u:k+1+↑(Bs.cZ (Bs.rest t))=↑(Bs.cZ s):=by grind
 have x:k<=64:=by omega
 have g:=aY u (Bs.z8 f) h i
 go_wp2_with fail
 refine(M8 _ _ f (o.Z i n)).m ?_;rintro e c ⟨rfl,rfl⟩
 go_wp2_with fail
 refine(V7 _ a k _ x h).m ?_;rintro e c ⟨rfl,rfl⟩;go_wp2
 go_roundw
 case rel=>exact⟨k+1,Bs.rest t,rfl,g.a,g.c.set _,g.D.setCell (p:=(a:Nat)) m _⟩
 rw[vE t];exact nh (nJ (vE (Bs.rest t))) g.b
def afh(s)(w)(g:bh w)(b:2<w.1.size):
 Calls prog 112 #[.int .u64 (Bv.U s)] w (Rs (Value.int .i64 (Bs.cZ s)) w):=by
 have c:Below w w ((w.alloc (.cells #[.int .i64 (0:Nat)] 3)).alloc (.cells #[.int .u64 (Bv.U s)] 50)):=(ba _ _).alloc (by simp) _;have f:=dE (w.alloc (.cells #[.int .i64 (0:Nat)] 3)) 50 (.int .u64 (Bv.U s));rw[cT]at f;have a:=aY c f ((dE w 3 (.int .i64 (0:Nat))).alloc (.cells #[.int .u64 (Bv.U s)] 50)) (g.Z c b);go_enter func112,ntmps112
 go_wp2_with fail
 refine(Pq _ _).m ?_;rintro e j ⟨rfl,rfl⟩
 go_wp2_with fail
 refine(adT s (w+1) w w _ a.b.C a.c (av _) b a.D).m ?_;rintro e l ⟨⟨v,rfl⟩,h,i⟩;have:=h.C;go_wp2;go_ret;exact⟨rfl,(H (a.a.t i)).y⟩
end
section
section
attribute [local go_sem] Bv.fE Bv.fO Bv.fA Bv.fL Bv.fC Bv.gn Bv.fP Bv.fQ
def nO(s:BitVec 64):Int:=if s=0#64 then 0 else(Bs.low s:Nat)
def lS(s:BitVec 64):Bool:=!(s==0#64)
attribute [local go_sem] Oper.semAt_some
def rD(s)(w)(C:bh w)(E:2<w.1.size):
 Calls prog 108 #[.int .u64 (Bv.U s)] w fun e W'=>e=(Value.tuple #[(nO s),(lS s)])/\Below w w W':=by
 refine(dh (n:=9)).1 ?_;refine sZ func108 rfl trivial ?_ rfl;simp only[ntmps108,jC,gL,iP,Nat.reduceAdd,Nat.reduceSub,j8,j5,kh,kj,gG,iJ]
 gi_wp2
 refine⟨trivial,?_⟩;refine(dh.2 (Pq _ _)).m ?_;rintro e I ⟨rfl,rfl⟩
 gi_wp2_with fail
 have F:=dE w 3 (.int .i64 0);have u:=dE (w.alloc (.cells #[.int .i64 0] 3)) 4 (.bool false);have v:=dE ((w.alloc (.cells #[.int .i64 0] 3)).alloc (.cells #[.bool false] 4)) 50 (.int .u64 (Bv.U s));simp only[cT]at u v;have y:Below w w (((w.alloc (.cells #[.int .i64 0] 3)).alloc (.cells #[.bool false] 4)).alloc (.cells #[.int .u64 (Bv.U s)] 50)):=((ba w _).alloc (by simp) _).alloc (by simp;omega) _;refine wpIn_rangeFunc_ownG rfl (by omega) (gf:=220) (lb:=#[.pointer (w+1+1:Nat)]) rfl trivial (gH func220 (by kernel_rfl) rfl)
  (aa7 8 (w+1+1) w.1.size s _ (by simp) (by omega) (by simp;omega) v.C (C.Z y E)) belowK_t (belowK_b (by simp;omega)) (aP _ _) (fun _=>rfl)
  (fun o W=>(o=[]/\Boxed W w 3 (.int .i64 0)/\Boxed W (w+1) 4 (.bool false))/\Below w w W)
  (fun c o W=>(c= .ret/\(∃x,o=[x]/\Boxed W w 3 (.int .i64 x)/\Boxed W (w+1) 4 (.bool true)))/\Below w w W)
  (OwnFrom.and (Own.from (fun s A B row a g b=>⟨a.1,Hj w 3 (fun _:Unit=> .int .i64 0) () A B row a.2.1 g b,Hj (w+1) 4 (fun _:Unit=> .bool false) () A B row a.2.2 g b⟩) _) (ownFrom_below (av _) (by simp;omega)))
  (fun c=>OwnFrom.and (Own.from (fun s A B row a g b=>by
    obtain⟨f,x,i,j,m⟩:=a;exact⟨f,x,i,Hj w 3 (fun _:Unit=> .int .i64 x) () A B row j g b,Hj (w+1) 4 (fun _:Unit=> .bool true) () A B row m g b⟩) _) (ownFrom_below (av _) (by simp;omega)))
  ⟨⟨rfl,(F.alloc _).alloc _,u.alloc _⟩,y⟩
  (fun x=>{tmps:=#[.int .u64 (Bv.U s),undef,.pointer w,.pointer (w+1:Nat),.int .i64 x,.int .u64 (Bv.U s),.func (.func 220) #[] #[.pointer (w+1+1:Nat)],.int .i64 x,undef],defers:=[]}) ?assign ?body ?done ?stop
 case assign=>
  intro l x W K j
  gi_wp2
  exact j
 case body=>
  rintro l o x W ⟨⟨rfl,g,f⟩,i⟩ J;have L:=g.C;have f0:=g.frozen;have M:=f.C;have f1:=f.frozen;have a:=aD g f i;clear g f i
  gi_wp2
  have m:=(a.a.set (.int .i64 x)).other (show w.1.size≠w+1 by omega) (.bool true);have b:=(a.b.other (show w.1.size+1≠w by omega) (.int .i64 x)).set (.bool true);exact⟨((Fw _ _ _).t (Fw _ _ _)).from _,⟨rfl,x,rfl,m,b⟩,(a.C.setCell (p:=(w.1.size:Nat)) (av _) _).setCell (p:=(w+1:Nat)) (by simp) _⟩
 case done=>
  rintro D ys W q z ⟨⟨rfl,g,f⟩,i⟩ j;have:=g.C;have:=g.frozen;have:=f.C;have:=f.frozen;have a:=bM z g f i j;clear g f i z j
  gi_wp2
  have g:=((Fw W w (.int .i64 0)).t (Fw _ (w+1:Nat) (.bool false))).same D _ a.E rfl;refine⟨by simp,.inl ⟨_,_,rfl,mj g,?_⟩⟩;have m:=(a.b.set (.int .i64 0)).other (show w.1.size≠w+1 by omega) (.bool false);have b:=(a.c.other (show w.1.size+1≠w by omega) (.int .i64 0)).set (.bool false);have f:s=0#64:=by
   apply ki;intro H;rw[Bs.pA H]at a;exact absurd a.a (by simp)
  refine⟨.tuple #[.int .i64 0,.bool false],?_,by unfold nO lS;simp[f],((a.d.setCell (p:=w) (av _) _).setCell (p:=(w+1:Nat)) (by simp) _).t (belowK_b (w:=w) (av _) _ D _ _ (by simp at q;omega) g rfl rfl)⟩;simp[results,results108,go_sem,(iR m.C (eC _ D (.deferred none)) (fun r e=>by cases e;exact⟨_,g,rfl⟩)),(iR b.C (eC _ D (.deferred none)) (fun r e=>by cases e;exact⟨_,g,rfl⟩))]
 rintro D c o W q z ⟨⟨rfl,x,rfl,m,b⟩,i⟩ j;have a:=bM z m b i j;clear z m b i j
 gi_wp2
 refine⟨by simp,.inl ⟨_,_,rfl,mj a.E,?_⟩⟩;have f:s≠0#64:=by
  intro e;have h:=a.a;rw[e,show Bs.cZ 0#64=[]from Bs.Cw]at h
  grind
 have b:x=Bs.low s:=by
  have⟨t,i⟩:=a.a;rw[Bs.pA f]at i
  grind
 refine⟨.tuple #[.int .i64 x,.bool true],?_,by unfold nO lS;rw[O f,b];simp[f],a.d.t (belowK_b (w:=w) (av _) _ D _ _ (by simp at q;omega) a.E rfl rfl)⟩;simp[results,results108,go_sem,(iR a.b.C (eC _ D (.deferred none)) (fun r e=>by cases e;exact⟨_,a.E,rfl⟩)),(iR a.c.C (eC _ D (.deferred none)) (fun r e=>by cases e;exact⟨_,a.E,rfl⟩))]
end
section
attribute [local go_sem] Bv.fE Bv.fO Bv.fA Bv.fL Bv.fC Bv.gn Bv.fP Bv.fQ Bv.yl Bv.wZ Bv.xO
def fK(w:World)(A:Option Addr)(a:List Int):Prop:=
 0<a.length->∃b c,A=some ⟨b,c,none⟩/\b<w.1.size/\∀i,i<a.length->w.cell? ⟨b,c+i,none⟩=some (.int .i64 (a.getD i 0))
def fK.Z{n}{w w'}{A}{zs}(h:fK w A zs)(f:Below n w w')(u:w<=n):fK w' A zs:=by
 intro g;have⟨b,off,e,o,r⟩:=h g;exact⟨b,off,e,aW o f.size,fun i hi=>(f.C (p:=⟨b,off+i,none⟩) (by grind)).t (r i hi)⟩
def adF{w:World}{base n}{e}{v}{vs}(h:w.ownsRow base e 1 v n vs):
 ∃A a,v= .slice A vs a/\vs=n/\a<=maxLen/\(0<vs.length->∃b,A=some ⟨b,0,none⟩/\base<=b/\b<w.1.size/\∀i v,vs[i]? =some v->w.cell? ⟨b,0+i,none⟩=some v):=by
 have c:vs=n:=by have:=h.1;omega
 obtain⟨rfl,rfl⟩|⟨g,a,o,rfl,f,j,p,l,q,r⟩:=h.2
 .grind
 refine⟨some g,a,by rw[c],c,l,fun _=>⟨g,rfl,f,(gS.1 j).1,fun i v m=>?_⟩⟩;have:=h.cells (g:=g) rfl i v m;have:(⟨g,0,none⟩:Addr).add i=⟨g,0+i,none⟩:=by unfold Addr.add;split<;>simp_all
 grind
def ints(l:List Nat):List Int:=l.map (fun k:Nat=>(k:Int))
def iL(l):(ints l)=l.length:=by simp[ints]
def Re{w}{base n:Nat}{e}{v}{l:List Nat}(h:w.ownsRow base e 1 v n (nums l)):∃A a,v= .slice A (ints l) a/\l=n/\a<=maxLen/\fK w A (ints l):=by
 have⟨A,a,e1,e2,g,c⟩:=adF h;have j:(nums l).length=(ints l).length:=by simp[nums,ints]
 rw[j]at e1 c;refine⟨A,a,e1,by rw[<-e2];simp[nums],g,fun m=>?_⟩;obtain⟨b,rfl,_,o,p⟩:=c m;refine⟨b,0,rfl,o,fun i f=>p i _ ?_⟩;simp only[ints,cV]at f;simp[nums,ints,f]
def V1{α}(d:α){xs ys:List α}(a:xs.length=ys)(h:∀i,i<xs.length->xs.getD i d=ys.getD i d):xs=ys:=by
 apply List.ext_getElem a
 grind
def tI{w}{base n}{e}{v:Value}{l:List Nat}(h:w.ownsRow base e 1 v n (nums l)):∃A a,v= .slice A n a/\l=n/\a<=maxLen/\fK w A (ints l):=by
 have⟨A,a,e1,e2,b,c⟩:=Re h;exact⟨A,a,by rw[e1,iL,e2],e2,b,c⟩
def ft{w:World}{b b' n}{e}{size}{v}{xs}(h:w.ownsRow b e size v n xs)(a:b'<=b):w.ownsRow b' e size v n xs:=
 ⟨h.1,h.2.imp id fun⟨g,c,f,i,j,l⟩=>⟨g,c,f,i,aO a j,l⟩⟩
def LI(n)(t)(f:mJ n=t)(w):
 Calls prog 105 #[n] w fun e c=>e=(Value.int .u64 (Bv.U t))/\w=c:=by subst f;exact(y8 n w).m fun e c ⟨a,b⟩=>⟨a,b.s⟩
def afv(s)(n)(b)(a:nO s=n)(c:lS s=b)(w)(f:bh w)(g:2<w.1.size):
 Calls prog 108 #[.int .u64 (Bv.U s)] w fun e W'=>e=(Value.tuple #[n,b])/\Below w w W':=by
 subst a c;exact rD s w f g
def PC(n):mJ n=Rl.below n:=rfl
end
end
def ar(n:Int)(f:Rl.Rows):Array Value:=(Value.int .i64 n::(List.range 48).map fun i=>Value.int .u64 (Bv.U (f i))).toArray
def lY(n)(f):(ar n f).size=49:=by simp[ar]
def ME(n)(f):(ar n f)[0]? =n:=by simp[ar]
def CE(n)(f)(i)(a:i<48):(ar n f)[1+i]? =some (.int .u64 (Bv.U (f i))):=by
 rw[MB];simp[ar,a]
def MS(n)(f):(ar n f).all (·.oneCell')=true:=by
 rw[Array.all_eq_true_iff_forall_mem];intro v a;simp only[ar,List.mem_toArray,fI,bX]at a;obtain rfl|⟨i,_,rfl⟩:=a<;>rfl
def ew(f:Rl.Rows)(a:Nat)(s:BitVec 64):Rl.Rows:=fun i=>if i=a then s else f i
def agv(f)(a)(s):ew f a s a=s:=aq rfl
def adx(f){a i}(s)(h:i≠a):ew f a s i=f i:=O h
def We(n)(f)(a)(s):(ar n f).setIfInBounds (1+a) (.int .u64 (Bv.U s))=ar n (ew f a s):=by
 apply JB;intro i;rw[TW];by_cases h:1+a=i
 .subst h;rw[aq rfl];by_cases c:a<48
  .rw[aq (by rw[lY];omega),CE _ _ _ c,agv]
  rw[O (by rw[lY];omega),LF (by rw[lY];omega)]
 rw[O h];cases i with
 |zero=>rw[ME,ME]
 |succ i=>
  by_cases b:i<48
  .have e:i+1=1+i:=MB _ _;rw[e,CE _ _ _ b,CE _ _ _ b,adx f s (by omega)]
  rw[LF (by rw[lY];omega),LF (by rw[lY];omega)]
def aG(w:World)(b:Nat)(n:Int)(f:Rl.Rows):Prop:=w.1[b]? =some (.cells (ar n f) 53 (0,0))
def aG.lt{w}{b}{n}{f}(h:aG w b n f):b<w:=(gS.1 h).1
def aG.num{w}{b}{n}{f}(h:aG w b n f):w.cell? b=some (.int .i64 n):=by
 rw[lN w b 0 _ _ _ h,ME]
def aG.row{w}{b}{n}{f}(h:aG w b n f)(i)(hi:i<48):w.cell? ⟨b,1+i,none⟩=some (.int .u64 (Bv.U (f i))):=by
 rw[lN w b (1+i) _ _ _ h,CE _ _ _ hi]
def aG.free{w}{b}{n}{f}(h:aG w b n f)(i):w.frozen? ⟨b,i,none⟩=false:=Gr w b i _ _ h
def aG.new(w:World)(n)(f):aG (w.alloc (.cells (ar n f) 53)) w n f:=jZ w _
def aG.alloc{w}{b}{n}{f}(h:aG w b n f)(o):aG (w.alloc o) b n f:=(fF _ _ _ h.lt).t h
def aG.drew{w}{b}{n}{f}(h:aG w b n f):aG w.drew b n f:=h
def aG.Z{k}{w w'}{b}{n}{f}(h:aG w b n f)(g:Below k w w')(i:b<k):aG w' b n f:=(g.block b i).t h
def aG.K{w w'}{row}{b}{n}{f}(h:aG w b n f)(g:w.grownBy w' row)(i:some b≠row):aG w' b n f:=(g.block b h.lt i).t h
def aG.set{w}{b}{n}{f}(h:aG w b n f)(a)(s):aG (w.setCell ⟨b,1+a,none⟩ (.int .u64 (Bv.U s))) b n (ew f a s):=by
 have:=Rf.IV (i:=1+a) (.int .u64 (Bv.U s)) h;unfold aG;rw[this,We]
def aG.other{w}{b}{n}{f}(h:aG w b n f)(p)(v)(g:b≠p.block):aG (w.setCell p v) b n f:=(cP _ _ _ _ g).t h
def gT:prog.underlying 53=some (.struct (prog.fieldsOf 53)):=by kernel_rfl
def pq:(prog.info? 53).map (·.size)=some 49:=by kernel_rfl
def jT(n)(f):(prog.info? 53).map (·.size)=(ar n f).size:=by rw[pq,lY]
def L5:prog.underlying 51=some (.array 48 50):=by kernel_rfl
def UF:(prog.info? 51).map (·.size)=some 48:=by kernel_rfl
def vR(f:Rl.Rows):List Value:=(List.range 48).map fun i=>Value.int .u64 (Bv.U (f i))
def Px(f):(vR f).length=48:=by simp[vR]
def Un(f)(i)(a:i<48):(vR f)[i]? =some (.int .u64 (Bv.U (f i))):=by simp[vR,a]
def aG.range{w}{b}{n}{f}(h:aG w b n f):w.rangeAt b 1 (vR f):=by
 intro j v g;have i:j<48:=by have:=(bL.1 g).1;rwa[Px]at this
 rw[Un f j i]at g;rw[h.row j i,g]
def E:Rl.Rows:=fun _=>0#64
def jk(w):(zeroValue 53).run prog w= .ok (ar 0 E) w:=by kernel_rfl
def fY{ops}{rest}{op}{a}{w}{Q}(j:op.guard=none)(x y)(l:op.op= .store 53 x y)
 (b)(m n)(g f)(o:a.eval x= .pointer b)(p:a.eval y= .agg (ar m g))(i:aG w b n f)
 (h:∀c,aG c b m g->w.grownBy c (some b)->wpList prog ops Q rest (a.put op.dst undef) c):wpList prog ops Q (op::rest) a w:=by
 refine Ca j fun _ c=>?_;have q:aG (w.setRow b (ar m g)) b m g:=Ed w b (ar n f) _ 53 (0,0) i;have r:w.grownBy (w.setRow b (ar m g)) (some b):=⟨rfl,rfl,rfl,by simp,fun k _ s=>Gu w b k _ (fun e=>s (by rw[e]))⟩
 unfold Oper.wp execOp;simp only[l,o,p,Instr.storeAt,Instr.sureAddr,eD,eZ,eY,(ED (P:=prog) w b 53 53 (ar n f) (ar m g) i (jT m g) (by rw[lY,lY]) (MS m g))];exact c _ _ (h _ q r)
def kk{ops}{rest}{op}{a}{w}{Q}(c:op.guard=none)(x)(e:op.op= .load 53 x)
 (b)(n)(f)(g:a.eval x= .pointer b)(i:aG w b n f)
 (h:wpList prog ops Q rest (a.put op.dst (ar n f)) w):wpList prog ops Q (op::rest) a w:=
 wpList_load_row c 53 x e b g 53 (ar n f) (0,0) _ i gT rfl (jT n f) h
section
attribute [local go_sem] Bv.fE Bv.fO Bv.fA Bv.fL Bv.fC Bv.gn Bv.fP Bv.fQ
def Ja(w)(cs)(off)(v:Value)(h:cs[off]? =v):(part 50 cs off).run prog w= .ok v w:=by
 unfold part isAgg;simp_all
def U8(f)(k:Nat)(a:k<48)(w):(Instr.index 51 (vR f).toArray (.int .i64 k)).run prog w= .ok (.int .u64 (Bv.U (f k))) w:=by
 have b:(sizeOf 50).run prog w= .ok 1 w:=by kernel_rfl
 have c:(k:Int)<48:=by omega
 simp[Instr.index,asIntOf,Ji L5,Result.andThen,b,(Ja w (vR f).toArray k (.int .u64 (Bv.U (f k))) (by simpa using Un f k a)),c];omega
def TE(n)(f){k}(b:k<48)(h:Rl.rG n f (k+1)=false):Rl.rG n f 48=false:=by
 rw[xu]at h⊢;intro a;apply h;unfold Rl.rG at a⊢
 grind
def aaX(n)(f)(w)(h:n<0\/48<n):
 Calls prog 63 #[(ar n f)] w (Rs false w):=by
 have:=(aG.new w n f).num;obtain h|h:=h
 all_goals
  go_enter func63,ntmps63;go_wp2;go_ret;exact⟨rfl,ba _ _⟩
def agZ(n)(f)(w)(q:0<=n)(r:n<=48):
 Calls prog 63 #[(ar n f)] w (Rs (Rl.rG n f 48) w):=by
 have a:=aG.new w n f;have:=a.num;have b:=H a.range;clear a;go_enter func63,ntmps63
 go_wp2_with fail
 refine(LI _ _ (PC n) _).m ?_;rintro e t ⟨rfl,rfl⟩
 go_wp2_with (refine iI rfl 51 (.tmp 17) rfl w 1 rfl (vR f) _ b.y L5 rfl (by rw[UF,Px]) ?_)
 clear b
 go_loop [19] (fun c=>∃k:Nat,k<=48/\c= .int .i64 k/\Rl.rG n f k=true) (fun c=>48-(intOf c).toNat)
 case atStart=>exact⟨0,aQ _,rfl,rfl⟩
 obtain⟨k,u,rfl,g⟩:=hrel;by_cases h:k<48
 .have m:=U8 f k h;have a:=Rl.aaz n f k;rw[g,kQ]at a;have⟨s,b⟩:=eX (f k);rw[<-b]at m a;unfold Rl.Hm at a;clear b g;have j:(s&&& ~~~(Rl.below n) !=0#64)=!(s&&& ~~~(Rl.below n)==0#64):=rfl;have o:(s !=0#64)=!(s==0#64):=rfl;cases i:(s&&& ~~~(Rl.below n)==0#64)
  .rw[i]at a j;have b:=H a;clear a;go_wp2;go_ret;exact⟨by rw[TE n f h b.y];rfl,ba _ _⟩
  rw[i,kQ]at a;rw[i]at j;by_cases l:(k:Int)<n
  .rw[fB l,Bool.true_or]at a;have b:=H a;clear a;go_wp2
   go_round
   case rel=>exact⟨k+1,by omega,by go_num,b.y⟩
   simp[intOf];omega
  rw[gX l,Bool.false_or]at a;cases p:(s==0#64)
  all_goals
   rw[p]at a o;have b:=H a;clear a
  .go_wp2;go_ret;exact⟨by rw[TE n f h b.y];rfl,ba _ _⟩
  go_wp2
  go_round
  case rel=>exact⟨k+1,by omega,by go_num,b.y⟩
  simp[intOf];omega
 have a:k=48:=by omega
 subst a;have b:=H g;clear g;go_wp2;go_ret;exact⟨by rw[b.y];rfl,ba _ _⟩
def aa0(n)(f)(w):
 Calls prog 63 #[(ar n f)] w (Rs (Rl.iq n f) w):=by
 by_cases h:0<=n/\n<=48
 .have e:Rl.iq n f=Rl.rG n f 48:=by unfold Rl.iq;rw[fB h,kQ]
  rw[e];exact agZ n f w h.1 h.2
 have e:Rl.iq n f=false:=by unfold Rl.iq;rw[gX h,Bc]
 rw[e];exact aaX n f w (by omega)
def lM(n)(f)(b)(a:Rl.iq n f=b)(w):
 Calls prog 63 #[(ar n f)] w (Rs b w):=by subst a;exact aa0 n f w
end
section
attribute [local go_sem] Bv.fE Bv.fO Bv.fA Bv.fL Bv.fC Bv.gn Bv.fP Bv.fQ
def y9(n)(w):(Instr.build 53 #[(0,.int .i64 n)]).run prog w= .ok (ar n E) w:=by kernel_rfl
def Hs(w):(Instr.build 53 #[]).run prog w= .ok (ar 0 E) w:=by kernel_rfl
def KG(n:Nat)(g:FuncId)(u:Array Value)(b:Rl.Rows)(w:World)(P:n<=48)(Q:∀args w,(callFunc g args).run prog w= .ok (.enter g args) w)
 (z:∀(a:Nat)(W:World),a<n->Below ↑w w W->Calls prog g (#[.int .i64 a]++u) W fun e W'=>e= .returned (.int .u64 (Bv.U (b a)))/\Below ↑W W W'):
 Calls prog 172 #[.int .i64 n,.func (.func g) #[] u] w fun e A=>e= .returned (.agg (ar n (Rl.cut n b)))/\Below ↑w w A:=by
 have:=jk;have:=y9;have l:=aG.new w 0 E;have m:=aG.new (w.alloc (.cells (ar 0 E) 53)) 0 E;rw[cT]at m;have v:=aA (l.alloc (.cells (ar 0 E) 53)) m;go_enter func172,ntmps172
 go_wp2_with (refine fY rfl (.tmp 5) (.tmp 8) rfl (w+1) n 0 E E rfl rfl v.B ?_;intro o m f)
 have o:=aD (v.a.K f (sn (by omega))) m (((ba w _).alloc (by simp) _).b f (by simp;omega) (fun j e=>by cases e;omega))
 go_loopw [10] (fun c wr=>∃k,k<=n/\c= .int .i64 k/\aG wr (w+1) n (Rl.cut k b)/\aG wr w 0 E/\Below w w wr) (fun c _=>n-(intOf c).toNat)
 case atStart=>exact⟨0,aQ _,rfl,o.b,o.a,o.C⟩
 obtain⟨k,R,rfl,x,l,q⟩:=hrel;by_cases C:k<n
 .have F:=z k wr C q;have I:=H F;have f:=aD x l q
  go_wp2_with fail
  refine I.y.st fun T r=>?_;have s:=f.a.Z r f.a.lt;have:=s.row k (by omega);have:=s.free (1+k);have y:=s.set k (b k);have J:ew (Rl.cut k b) k (b k)=Rl.cut (k+1) b:=by
   funext i;unfold ew Rl.cut;by_cases e:i=k
   .subst e;simp
   rw[O e];by_cases h:i<k
   .rw[aq h,aq (by omega)]
   rw[O h,O (by omega)]
  rw[J]at y;have t:=aD y ((f.b.Z r f.b.lt).other ⟨w+1,1+k,none⟩ (.int .u64 (Bv.U (b k))) (by simp)) ((f.C.t (r.m f.C.size)).setCell (p:=⟨w+1,1+k,none⟩) (by simp) (.int .u64 (Bv.U (b k))));go_wp2
  go_roundw
  case rel=>exact⟨k+1,by omega,by go_num,t.a,t.b,t.C⟩
  simp[intOf];omega
 have L:k=n:=by omega
 subst L;have f:=aD x l q
 go_wp2_with (first|(refine kk rfl (.tmp 5) rfl (w+1) k (Rl.cut k b) rfl f.a ?_)|(refine fY rfl (.tmp 4) (.tmp 20) rfl w k 0 (Rl.cut k b) E rfl rfl f.b ?_;intro X M N))
 refine bK (qC rfl _ _ w 53 (ar k (Rl.cut k b)) (0,0) _ rfl M gT rfl (jT _ _)) rfl ⟨rfl,f.C.b N f.C.size (fun j e=>by cases e;omega)⟩
def vJ{t}(h:t≠0#64):nO t=(Bs.low t:Nat)/\lS t=true:=⟨by unfold nO;rw[O h],by unfold lS;simpa using h⟩
def vG:nO 0#64=0/\lS 0#64=false:=⟨rfl,rfl⟩
def leftOf:Value->Nat
 | .int _ z=>(Bs.cZ (BitVec.ofInt 64 z)).length
 |_=>0
def vS(s):leftOf (.int .u64 (Bv.U s))=(Bs.cZ s):=by simp[leftOf,Bv.sM]
def af0(b)(n)(f)(s)(w)(O:aG w b n f)(P:∀i,s.getLsbD i=true->i<48)(e:bh w)(c:2<w.1.size):
 Calls prog 118 #[.pointer b,.int .u64 (Bv.U s)] w (Rs (Value.int .u64 (Bv.U (Rl.py f s))) w):=by
 have Q:∀W,Below w w W->bh W/\2<W.1.size:=fun W h=>⟨e.Z h c,aW c h.size⟩
 have z:=H Q;have m:=aA O P;have R:=H e;go_enter func118,ntmps118
 go_wp2_with fail
 refine(rD _ _ R.y c).st fun X c=>?_;have B1:=H c;go_wp2
 go_loopw [1,5,6,7] (fun x y p q wr=>∃(t j:BitVec 64),x= .int .u64 (Bv.U t)/\y= .int .u64 (Bv.U j)/\p= .int .i64 (nO t)/\q= .bool (lS t)/\j|||Rl.vI f (Bs.cZ t)=Rl.py f s/\(∀i,t.getLsbD i=true->s.getLsbD i=true)/\Below w w wr) (fun x _ _ _ _=>leftOf x)
 case atStart=>exact⟨s,0#64,rfl,rfl,rfl,rfl,by simp[Rl.py],fun _ h=>h,B1.y⟩
 obtain⟨t,j,rfl,rfl,rfl,rfl,o,u,c⟩:=hrel;by_cases e:t=0#64
 .subst e;have T:j=Rl.py f s:=by
   rw[<-o,show Bs.cZ 0#64=[]from Bs.Cw];simp[Rl.vI]
  rw[vG.1,vG.2];have A:=aA T c;go_wp2;go_ret;exact⟨by rw[<-A.a];rfl,A.B⟩
 have C:=Bs.qA e;have E:=m.B _ (u _ C);have F:=((m.a.Z c m.a.lt)).row (Bs.low t) E;have I:=Bs.pA e;have J:=Bs.z8 e;have l:(j|||f (Bs.low t))|||Rl.vI f (Bs.cZ (Bs.rest t))=Rl.py f s:=by rw[<-o,I,<-Rl.Wd]
 have L:∀i,(Bs.rest t).getLsbD i=true->s.getLsbD i=true:=fun i v=>u i (by rw[Bs.Ai e]at v;simp at v;exact v.1);rw[(vJ e).1,(vJ e).2];have⟨a,M⟩:=eX (Bs.low t);rw[<-M]at F E l⊢;have⟨r,N⟩:=eX (f a);rw[<-N]at F l;have g:=aY l L c J;clear l L c J I o u C M N e
 go_wp2_with fail
 refine(rD _ _ (z.y _ g.c).1 (z.y _ g.c).2).st fun l c=>?_;have e:=H (g.c.t (c.m g.c.size));clear c;go_wp2
 go_roundw
 case rel=>exact⟨Bs.rest t,j|||r,rfl,rfl,rfl,rfl,g.a,g.b,e.y⟩
 rw[vS t];exact nh (nJ (vS (Bs.rest t))) g.D
end
section
attribute [local go_sem] Bv.fE Bv.fO Bv.fA Bv.fL Bv.fC Bv.gn Bv.fP Bv.fQ
def C5{fn}{p q:Tmp}(h:fn.results=#[.cell p 53,.tmp q])(tmps)(w)(b)(n)(f)
 (e:tmps.getD p undef= .pointer b)(a:aG w b n f):(results fn tmps).run prog w= .ok (.tuple #[(ar n f),tmps.getD q undef]) w:=by
 have c:tmps[p]?.getD undef= .pointer b:=by simp_all
 simp[results,h,c,asAddr,(vW (P:=prog) w b 53 53 (ar n f) (0,0) _ a gT rfl (jT n f))]
def yz{w}{b}{n}{f}(h:aG w b n f)(d)(os):aG (Go.Sort.grow (redrawn w d) os) b n f:=h.Z (jO w d os) h.lt
def DF{ops}{C}{Q}{o}{rest}{a}(c:Region.wanted o (yielded ops a.tmps)=true)(x)(e:o.op= .load 53 x)(b)(n)(f)(g:a.eval x= .pointer b)
 (i:∀w,C w->aG w b n f)(h:wpQuiet prog ops C Q rest (a.put o.dst (ar n f))):wpQuiet prog ops C Q (o::rest) a:=
 Cd c fun K j=>⟨_,fun w l=>by
  unfold Oper.quietAt execOp;simp only[e,g,Instr.loadAt,Instr.sureAddr,eD,eZ,eY,vW (P:=prog) _ b 53 53 (ar n f) (0,0) _ (i w l) gT rfl (jT n f)];exact⟨rfl,rfl⟩,j _ h⟩
def B4{w}{b}{n}{f}(h:aG w b n f):∀a,(∃p:Regrown,a=Go.Sort.grow (redrawn w p.d) p.os)->aG a b n f:=by
 rintro a ⟨p,rfl⟩;exact yz h p.d p.os
def okB(n m:Int)(f g:Rl.Rows):Bool:=!(n !=m)&&Rl.iq n f&&Rl.iq m g
def qe(n m:Int)(f g:Rl.Rows):Int:=if okB n m f g then n else 0
def qw(n m:Int)(f g a:Rl.Rows):Rl.Rows:=if okB n m f g then Rl.cut n.toNat a else E
def tU(n m:Int)(f g:Rl.Rows):Int:=if okB n m f g then 0 else 2
def XQ(l o:Nat)(n m:Int)(f g:Rl.Rows)(gf:FuncId)(x:Array Value)(w:World)(u:aG w l n f)(v:aG w o m g)(h:okB n m f g=false):
 Calls prog 116 #[.pointer l,.pointer o,.func (.func gf) #[] x] w (Rs (Value.tuple #[(ar 0 E),.int .i64 2]) w):=by
 unfold okB at h;cases y:(n !=m)<;>cases a:Rl.iq n f<;>cases b:Rl.iq m g<;>rw[y,a,b]at h<;>first|cases h;done|skip
 all_goals
  have i:=aA a b;clear a b h;have⟨W,p⟩:=eX (w.alloc (.cells (ar 0 E) 53));have b:=u.alloc (.cells (ar 0 E) 53);have a:=v.alloc (.cells (ar 0 E) 53);have q:=aG.new w 0 E;have r:=ba w (.cells (ar 0 E) 53);have s:w<(w.alloc (.cells (ar 0 E) 53)).1.size:=by simp
  rw[<-p]at b a q r s;have z:=H (B4 b);have A:=H (B4 a);have C:=fun d t=>(yz b d t).num;have F:=fun d t=>(yz a d t).num;have:=jk;have:=Hs;have c:=bM p q r s b;clear u v b a p q r s;go_enter func116,ntmps116
  go_wp2_with fail
  rw[<-c.a];refine bV (by kernel_rfl) ?_
  repeat(first|(refine DF rfl _ rfl l n f rfl z.y ?_)|(refine DF rfl _ rfl o m g rfl A.y ?_)|go_big_quiet_step (first|(go_at_call 63;with_reducible exact aX (lM _ _ _ i.a _))|(go_at_call 63;with_reducible exact aX (lM _ _ _ i.B _)))|quiet_step (first|(go_at_call 63;with_reducible exact aX (lM _ _ _ i.a _))|(go_at_call 63;with_reducible exact aX (lM _ _ _ i.B _))))
  refine qn fun W1 a=>?_;have b:=aD a (c.b.Z a c.d) (c.c.t (a.m (nu c.d)));clear a C F
  go_wp2_with (refine fY rfl (.tmp 6) (.tmp 31) rfl w 0 0 E E rfl rfl b.b ?_;intro q a p)
  refine bK (C5 rfl _ _ w 0 E rfl a) rfl ⟨rfl,b.C.b p b.C.size (fun j e=>by cases e;omega)⟩
def aaJ(o p)(n:Nat)(f g rows)(gf)(caps)(w)(i:aG w o n f)(l:aG w p n g)(b:Rl.Ok n f)(c:Rl.Ok n g)
 (h:∀args w,(callFunc gf args).run prog w= .ok (.enter gf args) w)
 (r:∀(a:Nat)(W:World),a<n->Below w w W->Calls prog gf (#[.int .i64 a]++caps) W fun e W'=>e=(Value.int .u64 (Bv.U (rows a)))/\Below W W W'):
 Calls prog 116 #[.pointer o,.pointer p,.func (.func gf) #[] caps] w (Rs (Value.tuple #[(ar n (Rl.cut n rows)),.int .i64 0]) w):=by
 have m:=aA (Rl.oC b) (Rl.oC c);have:((n:Int) !=(n:Int))=false:=by simp
 have q:=aD r h b.le;clear b c r h;have⟨W,r⟩:=eX (w.alloc (.cells (ar 0 E) 53));have h:=i.alloc (.cells (ar 0 E) 53);have b:=l.alloc (.cells (ar 0 E) 53);have s:=aG.new w 0 E;have t:=ba w (.cells (ar 0 E) 53);have u:w<(w.alloc (.cells (ar 0 E) 53)).1.size:=by simp
 rw[<-r]at h b s t u;have x:=H (B4 h);have y:=H (B4 b);have z:=fun d v=>(yz h d v).num;have A:=fun d v=>(yz b d v).num;have:=jk;have:=Hs;have c:=bM r s t u h;clear i l h b r s t u;go_enter func116,ntmps116
 go_wp2_with fail
 rw[<-c.a];refine bV (by kernel_rfl) ?_
 repeat(first|(refine DF rfl _ rfl o n f rfl x.y ?_)|(refine DF rfl _ rfl p n g rfl y.y ?_)|go_big_quiet_step (first|(go_at_call 63;with_reducible exact aX (lM _ _ _ m.a _))|(go_at_call 63;with_reducible exact aX (lM _ _ _ m.B _)))|quiet_step (first|(go_at_call 63;with_reducible exact aX (lM _ _ _ m.a _))|(go_at_call 63;with_reducible exact aX (lM _ _ _ m.B _))))
 refine qn fun W1 b=>?_;have h:=aD b (c.b.Z b c.d) (c.c.t (b.m (nu c.d)));clear b z A;have s:=(c.E.Z h.a c.E.lt).num
 go_wp2_with fail
 refine(KG n gf caps rows W1 q.C q.b (fun a W i l=>q.a a W i (h.C.t (l.m h.C.size)))).st fun t b=>?_;have r:=aA (h.C.t (b.m h.C.size)) (h.b.Z b h.b.lt);clear b s
 go_wp2_with (refine fY rfl (.tmp 6) (.tmp 37) rfl w n 0 (Rl.cut n rows) E rfl rfl r.B ?_;intro u b s)
 refine bK (C5 rfl _ _ w n (Rl.cut n rows) rfl b) rfl ⟨rfl,r.a.b s r.a.size (fun j e=>by grind)⟩
def Kh(b c:Nat)(n m:Int)(f g i:Rl.Rows)(gf:FuncId)(j:Array Value)(w:World)(r:Rl.Z f)(s:Rl.Z g)(l:aG w b n f)(o:aG w c m g)
 (t:∀args w,(callFunc gf args).run prog w= .ok (.enter gf args) w)
 (u:∀(k a:Nat)(W:World),n=k->m=k->Rl.Ok k f->Rl.Ok k g->a<k->Below w w W->Calls prog gf (#[.int .i64 a]++j) W fun e W'=>e=(Value.int .u64 (Bv.U (i a)))/\Below W W W'):
 Calls prog 116 #[.pointer b,.pointer c,.func (.func gf) #[] j] w (Rs (Value.tuple #[(ar (qe n m f g) (qw n m f g i)),(tU n m f g)]) w):=by
 cases h:okB n m f g
 .obtain⟨e1,e2⟩:ar (qe n m f g) (qw n m f g i)=ar 0 E/\tU n m f g=2:=by unfold qe qw tU;rw[h];exact⟨rfl,rfl⟩
  rw[e1,e2];exact XQ b c n m f g gf j w l o h
 have v:=h;simp[okB]at h;obtain⟨⟨rfl,x⟩,y⟩:=h;obtain⟨k,rfl,p⟩:=Rl.Mq r x;have q:=(Rl.KO k g s).1 y;unfold qe qw tU;rw[v];exact aaJ b c k f g i gf j w l o p q t (fun a W=>u k a W rfl rfl p q)
end
section
attribute [local go_sem] Bv.fE Bv.fO Bv.fA Bv.fL Bv.fC Bv.gn Bv.fP Bv.fQ
def aak(a b k:Nat)(n m)(f g)(w)(c:k<48)(e:aG w a n f)(h:aG w b m g):
 Calls prog 180 #[.int .i64 k,.pointer a,.pointer b] w (Rs (Value.int .u64 (Bv.U (f k|||g k))) w):=by
 have l:=e.row k c;have o:=h.row k c;have:(0:Int)<=(k:Int):=by omega
 have:(k:Int)<48:=by omega
 have⟨x,i⟩:=eX (f k);have⟨y,j⟩:=eX (g k);rw[<-i]at l⊢;rw[<-j]at o⊢;clear e h i j;go_enter func180,ntmps180;go_wp2;go_quiet (fail);go_wp2;go_ret;exact⟨rfl,by repeat(exact below_drewN (aP _ _) _)⟩
def adN(a b k:Nat)(n m)(f g)(w)(c:k<48)(e:aG w a n f)(h:aG w b m g):
 Calls prog 119 #[.int .i64 k,.pointer a,.pointer b] w (Rs (Value.int .u64 (Bv.U (f k&&&g k))) w):=by
 have l:=e.row k c;have o:=h.row k c;have:(0:Int)<=(k:Int):=by omega
 have:(k:Int)<48:=by omega
 have⟨x,i⟩:=eX (f k);have⟨y,j⟩:=eX (g k);rw[<-i]at l⊢;rw[<-j]at o⊢;clear e h i j;go_enter func119,ntmps119;go_wp2;go_quiet (fail);go_wp2;go_ret;exact⟨rfl,by repeat(exact below_drewN (aP _ _) _)⟩
def agP(pa pb k)(n m)(f g)(w)(l:k<48)(c:aG w pa n f)(e:aG w pb m g)(a:∀i,(f k).getLsbD i=true->i<48)(h:bh w)(o:2<w.1.size):
 Calls prog 117 #[.int .i64 k,.pointer pb,.pointer pa] w (Rs (Value.int .u64 (Bv.U (Rl.py g (f k)))) w):=by
 have p:=c.row k l;have:(0:Int)<=(k:Int):=by omega
 have:(k:Int)<48:=by omega
 have⟨x,j⟩:=eX (f k);rw[<-j]at p a⊢;have b:=aD e a h;clear c e j a h;go_enter func117,ntmps117
 go_wp2_with fail
 refine(af0 pb m g x _ b.a b.b b.C o).st fun c a=>?_;have B:=H a;clear a;go_wp2;go_ret;exact⟨rfl,B.y⟩
def YA(n m)(f g)(w)(o:Rl.Z f)(p:Rl.Z g):
 Calls prog 115 #[(ar n f),(ar m g)] w (Rs (Value.tuple #[(ar (qe n m f g) (qw n m f g fun k=>f k|||g k)),(tU n m f g)]) w):=by
 have i:=(aG.new (w.alloc (.cells (ar n f) 53)) m g).alloc (.cells (ar 0 E) 53);have l:=aG.new ((w.alloc (.cells (ar n f) 53)).alloc (.cells (ar m g) 53)) 0 E;rw[cT]at i;simp only[cT]at l;have b:=aY (((aG.new w n f).alloc (.cells (ar m g) 53)).alloc (.cells (ar 0 E) 53)) i l (((ba w (.cells (ar n f) 53)).alloc (by simp) (.cells (ar m g) 53)).alloc (by simp;omega) (.cells (ar 0 E) 53));have:=jk;go_enter func115,ntmps115
 go_wp2_with fail
 refine(Kh w (w+1) n m f g (fun k=>f k|||g k) 180 #[.pointer w,.pointer (w+1:Nat)] _ o p b.a b.b (H (gH func180 (by kernel_rfl) rfl)).y ?_).m ?_
 .intro k a W t u q v x c;have:=q.le;exact aak _ _ a n m f g W (by omega) (b.a.Z c (by(simp;omega))) (b.b.Z c (by simp_all))
 rintro e y ⟨rfl,c⟩;have h:=aA (b.c.Z c (by simp)) (b.D.t (c.m b.D.size))
 go_wp2_with (refine fY rfl (.tmp 4) (.tmp 8) rfl (w+1+1) (qe n m f g) 0 (qw n m f g fun k=>f k|||g k) E rfl rfl h.a ?_;intro z r s)
 refine bK (C5 rfl _ _ (w+1+1) _ _ rfl r) rfl ⟨rfl,h.B.b s h.B.size (fun j e=>by grind)⟩
def ag4(n m)(f g)(w)(o:Rl.Z f)(p:Rl.Z g):
 Calls prog 76 #[(ar n f),(ar m g)] w (Rs (Value.tuple #[(ar (qe n m f g) (qw n m f g fun k=>f k&&&g k)),(tU n m f g)]) w):=by
 have i:=(aG.new (w.alloc (.cells (ar n f) 53)) m g).alloc (.cells (ar 0 E) 53);have l:=aG.new ((w.alloc (.cells (ar n f) 53)).alloc (.cells (ar m g) 53)) 0 E;rw[cT]at i;simp only[cT]at l;have b:=aY (((aG.new w n f).alloc (.cells (ar m g) 53)).alloc (.cells (ar 0 E) 53)) i l (((ba w (.cells (ar n f) 53)).alloc (by simp) (.cells (ar m g) 53)).alloc (by simp;omega) (.cells (ar 0 E) 53));have:=jk;go_enter func76,ntmps76
 go_wp2_with fail
 refine(Kh w (w+1) n m f g (fun k=>f k&&&g k) 119 #[.pointer w,.pointer (w+1:Nat)] _ o p b.a b.b (H (gH func119 (by kernel_rfl) rfl)).y ?_).m ?_
 .intro k a W t u q v x c;have:=q.le;exact adN _ _ a n m f g W (by omega) (b.a.Z c (by(simp;omega))) (b.b.Z c (by simp_all))
 rintro e y ⟨rfl,c⟩;have h:=aA (b.c.Z c (by simp)) (b.D.t (c.m b.D.size))
 go_wp2_with (refine fY rfl (.tmp 4) (.tmp 8) rfl (w+1+1) (qe n m f g) 0 (qw n m f g fun k=>f k&&&g k) E rfl rfl h.a ?_;intro z r s)
 refine bK (C5 rfl _ _ (w+1+1) _ _ rfl r) rfl ⟨rfl,h.B.b s h.B.size (fun j e=>by grind)⟩
def acH(n m)(f g)(w)(r:Rl.Z f)(s:Rl.Z g)(t:bh w)(l:2<w.1.size):
 Calls prog 75 #[(ar n f),(ar m g)] w (Rs (Value.tuple #[(ar (qe n m f g) (qw n m f g fun k=>Rl.py g (f k))),(tU n m f g)]) w):=by
 have o:=(aG.new (w.alloc (.cells (ar n f) 53)) m g).alloc (.cells (ar 0 E) 53);have p:=aG.new ((w.alloc (.cells (ar n f) 53)).alloc (.cells (ar m g) 53)) 0 E;rw[cT]at o;simp only[cT]at p;have b:=aY (((aG.new w n f).alloc (.cells (ar m g) 53)).alloc (.cells (ar 0 E) 53)) o p (((ba w (.cells (ar n f) 53)).alloc (by simp) (.cells (ar m g) 53)).alloc (by simp;omega) (.cells (ar 0 E) 53));have:=jk;go_enter func75,ntmps75
 go_wp2_with fail
 refine(Kh w (w+1) n m f g (fun k=>Rl.py g (f k)) 117 #[.pointer (w+1:Nat),.pointer w] _ r s b.a b.b (H (gH func117 (by kernel_rfl) rfl)).y ?_).m ?_
 .intro k a W x y q z A c;have:=q.le;exact agP _ _ a n m f g W (by omega) (b.a.Z c (by(simp;omega))) (b.b.Z c (by simp_all)) (fun i h=>by have:=(q.cz a i h).2;omega) ((H t).y.Z (b.D.t (c.m b.D.size)) l) (aW l (aO b.D.size c.size))
 rintro e C ⟨rfl,c⟩;have h:=aA (b.c.Z c (by simp)) (b.D.t (c.m b.D.size))
 go_wp2_with (refine fY rfl (.tmp 4) (.tmp 8) rfl (w+1+1) (qe n m f g) 0 (qw n m f g fun k=>Rl.py g (f k)) E rfl rfl h.a ?_;intro F u v)
 refine bK (C5 rfl _ _ (w+1+1) _ _ rfl u) rfl ⟨rfl,h.B.b v h.B.size (fun j e=>by grind)⟩
end
section
attribute [local go_sem] Bv.fE Bv.fO Bv.fA Bv.fL Bv.fC Bv.gn Bv.fP Bv.fQ Bv.yl Bv.Aj Bv.wZ Bv.xO
def ak(a k:Nat)(s)(w)(b:k<48)(c:w.cell? a=some (.int .u64 (Bv.U s))):
 Calls prog 224 #[.int .i64 k,.pointer a] w (Rs (Value.int .u64 (Bv.U (s&&&Bv.bit k))) w):=by
 have:(0:Int)<=(k:Int):=by omega
 have:(k:Int)<64:=by omega
 go_enter func224,ntmps224;go_wp2;go_quiet (fail);go_wp2;go_ret;exact⟨rfl,by repeat(exact below_drewN (aP _ _) _)⟩
def aa5(a b k:Nat)(s t)(w:World)(f:k<48)(g:w.cell? a=some (.int .u64 (Bv.U s)))(h:w.cell? b=some (.int .u64 (Bv.U t))):
 Calls prog 173 #[.int .i64 k,.pointer a,.pointer b] w (Rs (Value.int .u64 (Bv.U (if s.getLsbD k then t else 0#64))) w):=by
 have:(0:Int)<=(k:Int):=by omega
 have:(k:Int)<64:=by omega
 cases c:Bv.G s k
 all_goals
  have e:s.getLsbD k=_:=c;rw[e];go_enter func173,ntmps173;go_wp2;go_ret;exact⟨rfl,aP _ _⟩
def aed(w:World)(v)(t)(o):((w.alloc (.cells #[v] t)).alloc o).cell? w=some v:=by
 simp_all
def abY(n:Nat)(s:BitVec 64)(w:World)(h:n<=48):
 Calls prog 182 #[.int .i64 n,.int .u64 (Bv.U s)] w (Rs (ar n (Rl.tt n s)) w):=by
 have f:=gH func224 (by kernel_rfl) rfl;have i:=H f;have:=jk;have:=Hs;have:¬((n:Int)<0):=by omega
 have:¬((48:Int)<(n:Int)):=by omega
 have g:=aed w (.int .u64 (Bv.U s)) 50 (.cells (ar 0 E) 53);have b:=aG.new (w.alloc (.cells #[.int .u64 (Bv.U s)] 50)) 0 E;simp only[cT]at b;have c:=aD g b ((ba w (.cells #[.int .u64 (Bv.U s)] 50)).alloc (by simp) (.cells (ar 0 E) 53));clear f g b;go_enter func182,ntmps182
 go_wp2_with fail
 refine(KG n 224 #[.pointer w] (fun k=>s&&&Bv.bit k) _ h i.y ?_).m ?_
 .intro a W l b;exact ak w a s W (by omega) ((b.C (p:=w) (by simp;omega)).t c.a)
 rintro e m ⟨rfl,b⟩;have f:=aA (c.b.Z b (by simp)) (c.C.t (b.m c.C.size));clear b
 go_wp2_with (refine fY rfl (.tmp 4) (.tmp 14) rfl (w+1) n 0 (Rl.tt n s) E rfl rfl f.a ?_;intro o b g)
 refine bK (qC rfl _ _ (w+1) 53 (ar n (Rl.tt n s)) (0,0) _ rfl b gT rfl (jT _ _)) rfl ⟨rfl,f.B.b g f.B.size (fun j e=>by grind)⟩
def aeN(n)(s t:BitVec 64):Rl.cut n (fun k=>if s.getLsbD k then t&&&Rl.below (n:Int)else 0#64)=Rl.sG n s t:=rfl
def Yn(n:Nat)(s t:BitVec 64)(w:World)(v:n<=48):
 Calls prog 104 #[.int .i64 n,.int .u64 (Bv.U s),.int .u64 (Bv.U t)] w fun e x=>e= .returned (.agg (ar n (Rl.sG n s t)))/\Below ↑w w x:=by
 have q:=gH func173 (by kernel_rfl) rfl;have y:=H q;have:=jk;have:=Hs;have:¬((n:Int)<0):=by omega
 have:¬((48:Int)<(n:Int)):=by omega
 have⟨W,f⟩:=eX (((w.alloc (.cells #[.int .u64 (Bv.U s)] 50)).alloc (.cells #[.int .u64 (Bv.U t)] 50)).alloc (.cells (ar 0 E) 53));have r:W.1[w.1.size]? =some (.cells #[.int .u64 (Bv.U s)] 50 (0,0)):=by
  rw[f,fF _ _ _ (by simp;omega),fF _ _ _ (by simp)];exact jZ w _
 have h:W.1[w.1.size+1]? =some (.cells #[.int .u64 (Bv.U t)] 50 (0,0)):=by
  rw[f,fF _ _ _ (by simp)];exact jZ (w.alloc (.cells #[.int .u64 (Bv.U s)] 50)) _|>(by simpa using·)
 have l:=aG.new ((w.alloc (.cells #[.int .u64 (Bv.U s)] 50)).alloc (.cells #[.int .u64 (Bv.U t)] 50)) 0 E;simp only[cT]at l;rw[<-f]at l;have m:=((ba w (.cells #[.int .u64 (Bv.U s)] 50)).alloc (by simp) (.cells #[.int .u64 (Bv.U t)] 50)).alloc (by simp;omega) (.cells (ar 0 E) 53);rw[<-f]at m;have u:W.cell? (w+1:Nat)=some (.int .u64 (Bv.U t)):=by rw[lN _ _ 0 _ _ _ h];rfl
 have f1:=Gr _ _ 0 _ _ h;have⟨c,o⟩:=eX (W.setCell (w+1:Nat) (.int .u64 (Bv.U (t&&&Rl.below (n:Int))))).drew;have g:c=W.drew.setCell (w+1:Nat) (.int .u64 (Bv.U (t&&&Rl.below (n:Int)))):=by rw[o];exact(World.setCell_drew _ _).s
 have d0:c.cell? w=some (.int .u64 (Bv.U s)):=by
  rw[g,lN _ _ 0 _ _ _ ((cP _ _ _ _ (by simp)).t (show W.drew.1[w.1.size]? =_ from r))];rfl
 have d1:c.cell? (w+1:Nat)=some (.int .u64 (Bv.U (t&&&Rl.below (n:Int)))):=by
  rw[g,lN _ _ 0 _ _ _ (Rf.IV (i:=0) (.int .u64 (Bv.U (t&&&Rl.below (n:Int)))) (show W.drew.1[w.1.size+1]? =_ from h))];rfl
 have d2:aG c (w+1+1) 0 E:=by rw[g];exact l.drew.other _ _ (by simp)
 have d3:Below w w c:=by rw[g];exact(Below.drew m).setCell (p:=(w+1:Nat)) (by simp) _
 have b:=dH f o d0 d1 d2 d3 (d2.lt);clear q l m r h d0 d1 d2 d3 f o g;go_enter func104,ntmps104
 go_wp2_with fail
 rw[<-b.a];refine wp_region_still_tail 4 (by kernel_rfl) (by kernel_rfl) ?_;simp only[st1]
 repeat(first|still_call (y8 _ _)|still_step)
 refine wpStill_nil ?_;change wpList _ _ _ _ _ W.drew;rw[show mJ (n:Int)=Rl.below (n:Int)from rfl];have f:=u;have f2:=f1
 go_step
 go_wp2_with fail
 rw[<-b.b];clear u f f1 f2;refine(KG n 173 #[.pointer w,.pointer (w+1:Nat)] (fun k=>if s.getLsbD k then t&&&Rl.below (n:Int)else 0#64) _ v y.y ?_).m ?_
 .intro a W l f;exact aa5 w (w+1) a s (t&&&Rl.below (n:Int)) W (by omega) ((f.C (p:=w) (by have:=b.G;show w.1.size<c;omega)).t b.c) ((f.C (p:=(w+1:Nat)) (by have:=b.G;show w.1.size+1<c;omega)).t b.d)
 rintro e m ⟨rfl,f⟩;rw[aeN];have g:=aA (b.e.Z f b.G) (b.f.t (f.m b.f.size));clear f
 go_wp2_with (refine fY rfl (.tmp 6) (.tmp 20) rfl (w+1+1) n 0 (Rl.sG n s t) E rfl rfl g.a ?_;intro o f h)
 refine bK (qC rfl _ _ (w+1+1) 53 (ar n (Rl.sG n s t)) (0,0) _ rfl f gT rfl (jT _ _)) rfl ⟨rfl,g.B.b h g.B.size (fun j e=>by grind)⟩
end
section
attribute [local go_sem] Bv.fE Bv.fO Bv.fA Bv.fL Bv.fC Bv.gn Bv.fP Bv.fQ Bv.yl Bv.Aj Bv.wZ Bv.xO
def bk(k:Nat)(f:Rl.Rows)(s:BitVec 64):Rl.Rows:=fun b=>Rl.dR k f b|||(if s.getLsbD b then Bv.bit k else 0#64)
def UK(k)(f):bk k f 0#64=Rl.dR k f:=by
 unfold bk
 grind
def acp(k)(f)(e:k<64):bk k f (f k)=Rl.dR (k+1) f:=by
 funext b;apply Bv.ext_get;intro c a;unfold bk Rl.dR;rw[iU,Bx.tV _ c a,Bx.tV _ c a];cases g:(f k).getLsbD b
 .by_cases h:c=k
  .unfold Rl.bit
   grind
  grind
 rw[aq rfl,Bv.ik k c e];by_cases c=k
 .unfold Rl.bit
  grind
 grind
def Vq(k a)(f)(d)(c:a<64):ew (bk k f d) a (bk k f d a|||Bv.bit k)=bk k f (d|||Bv.bit a):=by
 funext b;unfold ew;by_cases h:b=a
 .subst h;unfold bk;rw[iU,Bv.ik b b c,fB rfl,Bool.or_true,aq rfl,BitVec.or_assoc]
  grind
 rw[O h];unfold bk;rw[iU];by_cases b<64
 .rw[Bv.ik a b c,gX h,Bool.or_false]
 grind
def abQ{t}(h:t≠0)(d):(d|||Bv.bit (Bs.low t))|||Bs.rest t=d|||t:=by
 apply Bv.ext_get;intro c a;rw[iU,iU,iU,Bs.Ai h,Bv.ik _ _ (Bs.Hg h)];by_cases e:c=Bs.low t
 .subst e;rw[Bs.qA h];simp
 simp[e]
def VR(f):Rl.dR 0 f=E:=by
 funext b;apply Bv.ext_get;intro c a;unfold Rl.dR E;rw[Bx.tV _ c a,Bv.lu];simp
def Gq(n:Nat)(f:Rl.Rows)(w:World)(b:Rl.Ok n f)(g:bh w)(T:2<w.1.size):
 Calls prog 107 #[.agg (ar n f)] w (Rs (.agg (ar n (Rl.dR n f))) w):=by
 have:=jk;have:=y9;have i:=(aG.new w n f).alloc (.cells (ar 0 E) 53);have C:=aG.new (w.alloc (.cells (ar n f) 53)) 0 E;rw[cT]at C;have l:∀W,Below w w W->bh W/\2<W.1.size:=fun W h=>⟨g.Z h T,aW T h.size⟩
 have L:=H l;have X:=H b;have y:=aY i C ((ba w (.cells (ar n f) 53)).alloc (by simp) (.cells (ar 0 E) 53)) (Rl.oC b);clear i C b g l;go_enter func107,ntmps107
 go_wp2_with (refine kk rfl (.tmp 1) rfl w.1.size n f rfl y.a ?_)
 with_reducible refine(lM _ _ _ y.D _).m ?_
 rintro e M ⟨rfl,g⟩;have b:=y.a.Z g (by simp;omega);have z:=aD b (y.b.Z g (by simp)) (y.c.t (g.m y.c.size));have l:=b.num;clear g b;have i:w.1.size+1<M.1.size:=z.b.lt;have⟨B,b⟩:=eX M.1.size;have:¬ar 0 E=#[]:=by intro h;have:=cg Array.size h;rw[lY]at this;simp at this
 go_wp2_with (refine fY rfl (.tmp 3) (.tmp 14) rfl M.1.size n 0 E E rfl rfl (aG.new M 0 E) ?_;intro aa F u;have m:=((z.a.alloc (.cells (ar 0 E) 53)).K u (sn (by omega))).num)
 rw[<-b]at F⊢;have N:=aY F (((z.a.alloc (.cells (ar 0 E) 53)).K u (sn (by omega)))) (((z.b.alloc (.cells (ar 0 E) 53)).K u (sn (by omega)))) (show Below w w aa from(z.C.alloc z.C.size _).b u (by simp;omega) (fun j e=>by cases e;omega));have:w.1.size+1<B:=by omega
 have:=aA i b;clear F u l m i b
 go_loopw [17] (fun c wr=>∃k:Nat,k<=n/\c= .int .i64 k/\aG wr B n (Rl.dR k f)/\aG wr w.1.size n f/\aG wr (w.1.size+1) 0 E/\Below w w wr) (fun c _=>n-(intOf c).toNat)
 case atStart=>exact⟨0,aQ _,rfl,by rw[VR];exact N.a,N.b,N.c,N.D⟩
 obtain⟨k,ah,rfl,i,m,o,r⟩:=hrel;have:=X.y.le;by_cases k<n
 .have P:=m.row k (by omega);have⟨s,b⟩:=eX (f k);rw[<-b]at P;have l:=bM i m o r b;clear i m o r b;have:(0:Int)<=(k:Int):=by omega
  have:(k:Int)<48:=by omega
  go_wp2_with fail
  refine(rD _ _ (L.y _ l.d).1 (L.y _ l.d).2).st fun ai g=>?_;have:w.1.size+1<wr.1.size:=l.c.lt;have ab:=aY (l.a.Z g l.a.lt) (l.b.Z g l.b.lt) (l.c.Z g l.c.lt) (l.d.t (g.m l.d.size));clear g;go_wp2
  go_loopw [5,6,7] (fun x p q wr=>∃(t d:BitVec 64),x= .int .u64 (Bv.U t)/\p= .int .i64 (nO t)/\q= .bool (lS t)/\d|||t=f k/\aG wr B n (bk k f d)/\aG wr w.1.size n f/\aG wr (w.1.size+1) 0 E/\Below w w wr) (fun x _ _ _=>leftOf x)
  case atStart=>exact⟨s,0#64,rfl,rfl,rfl,by rw[<-l.E];simp,by rw[UK];exact ab.a,ab.B⟩
  obtain⟨t,d,rfl,rfl,rfl,I,i,m,o,r⟩:=hrel;by_cases A:t=0#64
  .subst A;rw[vG.1,vG.2];have aA:d=f k:=by rw[<-I];simp
   subst aA;rw[acp _ _ (by omega)]at i;have b:=aY i m o r;clear i m o r I P;go_wp2
   go_roundw
   case rel=>exact⟨k+1,by omega,by go_num,b.y⟩
   simp[intOf];omega
  have ad:Bs.low t<48:=by
   have C:(f k).getLsbD (Bs.low t)=true:=by rw[<-I,iU,Bs.qA A,Bool.or_true]
   have:=(X.y.cz k _ C).2;omega
  have O:=i.row (Bs.low t) ad;have J:=i.drew.set (Bs.low t) (bk k f d (Bs.low t)|||Bv.bit k);rw[Vq k _ f d (by omega)]at J;have Q:=i.free (1+Bs.low t);have R:=abQ A d;have ae:=Bs.z8 A;rw[(vJ A).1,(vJ A).2];have⟨a,af⟩:=eX (Bs.low t);rw[<-af]at O J Q R ad⊢;have⟨v,ag⟩:=eX (bk k f d a);rw[<-ag]at O J;have:(0:Int)<=(a:Int):=by omega
  have:(a:Int)<48:=by omega
  have b:=dH J (m.drew.other ⟨B,1+a,none⟩ (.int .u64 (Bv.U (v|||Bv.bit k))) (by simp;omega)) (o.drew.other ⟨B,1+a,none⟩ (.int .u64 (Bv.U (v|||Bv.bit k))) (by simp;omega)) (r.drew.setCell (p:=⟨B,1+a,none⟩) (by simp;omega) (.int .u64 (Bv.U (v|||Bv.bit k)))) R ae I;clear J i m o r R ae I ag af P;go_wp2;go_still_tail 9,(by kernel_rfl)
  change wpList _ _ _ _ _ wr.drew;have I:wr.drew.cell? ⟨B,1+a,none⟩=some (.int .u64 (Bv.U v)):=O;have f2:wr.drew.frozen? ⟨B,1+a,none⟩=false:=Q
  go_step
  go_wp2_with fail
  rw[<-World.setCell_drew];refine(rD _ _ (L.y _ b.d).1 (L.y _ b.d).2).st fun P g=>?_;have J:=aY (b.a.Z g b.a.lt) (b.b.Z g b.b.lt) (b.c.Z g b.c.lt) (b.d.t (g.m b.d.size));clear g I f2 O Q;go_wp2
  go_roundw
  case rel=>exact⟨Bs.rest t,d|||Bv.bit a,rfl,rfl,rfl,by rw[b.e];exact b.G,J.y⟩
  rw[vS t];exact nh (nJ (vS (Bs.rest t))) b.f
 have g:k=n:=by omega
 subst g;have b:=aD i o r;clear i m o r
 go_wp2_with (first|(refine kk rfl (.tmp 3) rfl B k (Rl.dR k f) rfl b.a ?_)|(refine fY rfl (.tmp 2) (.tmp 49) rfl (w.1.size+1) k 0 (Rl.dR k f) E rfl rfl b.b ?_;intro aa F u))
 refine bK (qC rfl _ _ (w.1.size+1) 53 (ar k (Rl.dR k f)) (0,0) _ rfl F gT rfl (jT _ _)) rfl ⟨rfl,b.C.b u b.C.size (fun j e=>by cases e;omega)⟩
end
namespace Rl
def xf(n:Nat)(f:Rows):BitVec 64:=Bx.mk fun a=>decide (a<n)&&!(f a==0#64)
def Ql{s}:(!(s==0#64))=true↔∃b,s.getLsbD b=true:=by
 constructor
 .intro h;have a:s≠0#64:=by grind
  exact⟨_,Bs.qA a⟩
 grind
def N9{n}{f}(c:Ok n f)(a):(xf n f).getLsbD a=true↔∃b,bit f a b=true:=by
 have:=c.le;constructor
 .intro h;unfold xf at h;rw[Bx.tV _ a (Bx.mV h),cH]at h;exact Ql.1 h.2
 rintro⟨b,e⟩;have g:=(c.cz a b e).1;unfold xf;rw[Bx.tV _ a (by omega),cH];exact⟨fB g,Ql.2 ⟨b,e⟩⟩
def agQ{n}{f}(e:Ok n f):xf n f=0#64↔∀a b,bit f a b=false:=by
 constructor
 .intro h a b;cases c:bit f a b
  .rfl
  have:=(N9 e a).2 ⟨b,c⟩
  grind
 intro h;apply Bv.ext_get;intro a g;rw[Bv.lu];cases c:(xf n f).getLsbD a
 .rfl
 have⟨b,i⟩:=(N9 e a).1 c
 grind
def Av{n}{f g}(i:Ok n f)(a c):bit (lK n f g) a c=true↔∃b,bit f a b=true/\bit g b c=true:=by
 by_cases e:a<n
 .exact aeG n f g a c e
 constructor
 .intro h;unfold lK at h;rw[qM,cH]at h
  grind
 rintro⟨b,h,_⟩;exact absurd (i.cz a b h).1 e
def Ir{n}{f g}(e:Ok n f)(i:Ok n g)(a b):bit (rN n f g) a b=true↔bit f a b=true\/bit g a b=true:=by
 by_cases c:a<n
 .rw[ad1 n f g a b c,jW]
 constructor
 .intro h;unfold rN at h;rw[qM,cH]at h
  grind
 rintro(h|h)
 .exact absurd (e.cz a b h).1 c
 exact absurd (i.cz a b h).1 c
def TF{n}{f g}(e:Ok n f)(a b):bit (sI n f g) a b=true↔bit f a b=true/\bit g a b=true:=by
 by_cases c:a<n
 .rw[U9 n f g a b c,cH]
 constructor
 .intro h;unfold sI at h;rw[qM,cH]at h
  grind
 rintro⟨h,_⟩;exact absurd (e.cz a b h).1 c
def abr{n}{f}(c:Ok n f)(a b):bit (dR n f) a b=true↔bit f b a=true:=by rw[Bg c]
def Z1{n}(c:n<=48)(s t)(a b):bit (sG n s t) a b=true↔a<n/\b<n/\s.getLsbD a=true/\t.getLsbD b=true:=by
 by_cases e:a<n
 .rw[Sq n s t a b e c,cH,cH,lD]
  grind
 constructor
 .intro h;exact absurd ((CP c s t).cz a b h).1 e
 omega
end Rl
section
attribute [local go_sem] Bv.fE Bv.fO Bv.fA Bv.fL Bv.fC Bv.gn Bv.fP Bv.fQ Bv.yl Bv.Aj Bv.wZ Bv.xO
def O4{ops}{rest}{op}{a}{w}{Q}(c:Region.wanted op (yielded ops a.tmps)=true)(x)(e:op.op= .load 53 x)
 (b)(n)(f)(g:a.eval x= .pointer b)(i:aG w b n f)
 (h:wpList prog ops Q rest (a.put op.dst (ar n f)) w):wpList prog ops Q (op::rest) a w:=
 D3 c fun K j=>by
  unfold Oper.wp execOp;simp only[e,g,Instr.loadAt,Instr.sureAddr,eD,eZ,eY,vW (P:=prog) w b 53 53 (ar n f) (0,0) _ i gT rfl (jT n f)];exact j _ _ h
def tK(f:Rl.Rows)(k:Nat):BitVec 64:=Bx.mk fun a=>decide (a<k)&&!(f a==0#64)
def Vg(f)(k)(b:k<48)(h:(f k==0#64)=false):tK f k|||Bv.bit k=tK f (k+1):=by
 apply Bv.ext_get;intro i a;unfold tK;rw[iU,Bx.tV _ i a,Bx.tV _ i a,Bv.ik k i (by omega)]
 grind
def Xz(f)(k)(h:(f k==0#64)=true):tK f k=tK f (k+1):=by
 unfold tK
 grind
def agq(f):tK f 0=0#64:=by
 apply Bv.ext_get;intro i a;unfold tK;rw[Bx.tV _ i a,Bv.lu];simp
def Fs(n:Int)(f:Rl.Rows):BitVec 64:=if Rl.iq n f then Rl.xf n.toNat f else 0#64
def aez(n)(f)(w)(b:Rl.iq n f=false):
 Calls prog 120 #[(ar n f)] w (Rs (Value.int .u64 (Bv.U 0#64)) w):=by
 have a:=aD (aG.new w n f) (ba w (.cells (ar n f) 53)) b;clear b;go_enter func120,ntmps120
 go_wp2_with (refine kk rfl (.tmp 1) rfl w n f rfl a.a ?_)
 with_reducible refine(lM _ _ _ a.C _).m ?_
 rintro e g ⟨rfl,b⟩;have c:=H (a.b.t (b.m a.b.size));clear b;go_wp2;go_ret;exact⟨rfl,c.y⟩
def aea(n)(f)(w)(b:Rl.Ok n f):
 Calls prog 120 #[(ar n f)] w (Rs (Value.int .u64 (Bv.U (Rl.xf n f))) w):=by
 have:=b.le;have a:=aD (aG.new w n f) (ba w (.cells (ar n f) 53)) (Rl.oC b);clear b;go_enter func120,ntmps120
 go_wp2_with (refine kk rfl (.tmp 1) rfl w n f rfl a.a ?_)
 with_reducible refine(lM _ _ _ a.C _).m ?_
 rintro e h ⟨rfl,b⟩;have c:=aA (a.a.Z b (by simp)) (a.b.t (b.m a.b.size));clear b;have:=c.a.num;go_wp2
 go_loop [3,10] (fun x i=>∃k,k<=n/\i= .int .i64 k/\x= .int .u64 (Bv.U (tK f k))) (fun _ i=>n-(intOf i).toNat)
 case atStart=>exact⟨0,aQ _,rfl,by rw[agq];rfl⟩
 obtain⟨k,j,rfl,rfl⟩:=hrel;by_cases k<n
 .have:=c.a.row k (by omega);have:(0:Int)<=(k:Int):=by omega
  have:(k:Int)<48:=by omega
  have:(k:Int)<64:=by omega
  cases b:(f k==0#64)
  .have g:=H (Vg f k (by omega) b);have l:(f k !=0#64)=true:=by grind
   clear b;go_wp2
   go_round
   case rel=>exact⟨k+1,by omega,by go_num,by rw[<-g.y]⟩
   simp[intOf];omega
  have g:=H (Xz f k b);have:(f k !=0#64)=false:=by grind
  clear b;go_wp2
  go_round
  case rel=>exact⟨k+1,by omega,by go_num,by rw[<-g.y]⟩
  simp[intOf];omega
 have:k=n:=by omega
 go_wp2;go_ret;exact⟨rfl,c.B⟩
def Xr(n)(f)(w)(a:Rl.Z f):
 Calls prog 120 #[(ar n f)] w (Rs (Value.int .u64 (Bv.U (Fs n f))) w):=by
 unfold Fs;cases h:Rl.iq n f
 .exact aez n f w h
 obtain⟨m,rfl,b⟩:=Rl.Mq a h;exact aea m f w b
def aaW{n:Nat}(a:n<=48)(i)(h:(Rl.below (n:Int)).getLsbD i=true):i<48:=by
 rw[Rl.qZ _ _ (Bx.mV h)]at h
 grind
def xz(n:Int)(f:Rl.Rows):Bool:=Rl.iq n f&&(Fs n f==0#64)
def ZL(n)(f)(w)(g:Rl.Z f):
 Calls prog 77 #[(ar n f)] w (Rs (xz n f) w):=by
 unfold xz;cases b:Rl.iq n f
 all_goals
  have a:=aD (aG.new w n f) (ba w (.cells (ar n f) 53)) b;clear b;go_enter func77,ntmps77
  go_wp2_with (refine kk rfl (.tmp 1) rfl w n f rfl a.a ?_)
  with_reducible refine(lM _ _ _ a.C _).m ?_
  rintro e h ⟨rfl,b⟩;have c:=aA (a.a.Z b (by simp)) (a.b.t (b.m a.b.size));clear b
 .go_wp2;go_ret;exact⟨rfl,c.B⟩
 go_wp2_with (refine O4 rfl (.tmp 1) rfl w n f rfl c.a ?_)
 with_reducible refine(Xr _ _ _ (H g).y).m ?_
 rintro e i ⟨rfl,b⟩;go_wp2;go_ret;exact⟨rfl,(H (c.B.t (b.m c.B.size))).y⟩
end
section
attribute [local go_sem] Bv.fE Bv.fO Bv.fA Bv.fL Bv.fC Bv.gn Bv.fP Bv.fQ Bv.yl Bv.Aj Bv.wZ Bv.xO
def PV{k}{w w'}{base n}{e}{size}{v}{xs}(h:w.ownsRow base e size v n xs)(b:Below k w w')(c:w<=k):w'.ownsRow base e size v n xs:=
 ⟨h.1,h.2.imp id fun⟨g,f,i,j,l,a,m⟩=>⟨g,f,i,j,l,(b.block g (aW (gS.1 a).1 c)).t a,m⟩⟩
def vH(f:Rl.Rows)(s:BitVec 64):Int:=match Rl.pJ f s with
 |some a=>(a:Int)
 |none=>0
def vK(f:Rl.Rows)(s:BitVec 64):Bool:=(Rl.pJ f s).isSome
def vn(f:Rl.Rows)(s t:BitVec 64):Option Nat:=(Bs.cZ t).find? fun a=>f a&&&s==0#64
def af4(f)(s):vn f s 0#64=none:=by unfold vn;rw[show Bs.cZ 0#64=[]from Bs.Cw];rfl
def V3{f}{s t}(a:t≠0#64)(h:(f (Bs.low t)&&&s==0#64)=true):vn f s t=(Bs.low t):=by unfold vn;rw[Bs.pA a,List.find?_cons,h]
def Yo{f}{s t}(a:t≠0#64)(h:(f (Bs.low t)&&&s==0#64)=false):vn f s t=vn f s (Bs.rest t):=by unfold vn;rw[Bs.pA a,List.find?_cons,h]
def agc(b)(n)(f)(s)(w)(g:aG w b n f)(j:∀i,s.getLsbD i=true->i<48)(c:bh w)(e:2<w.1.size):
 Calls prog 179 #[.pointer b,.int .u64 (Bv.U s)] w (Rs (Value.tuple #[(vH f s),(vK f s)]) w):=by
 have l:∀W,Below w w W->bh W/\2<W.1.size:=fun W h=>⟨c.Z h e,aW e h.size⟩
 have E:=H l;have r:=aA g j;have J:=H c;clear l c g j;go_enter func179,ntmps179
 go_wp2_with fail
 refine(rD _ _ J.y e).st fun O c=>?_;have B1:=H c;clear c;go_wp2
 go_loopw [6,7,8] (fun x p q wr=>∃t,x= .int .u64 (Bv.U t)/\p= .int .i64 (nO t)/\q= .bool (lS t)/\vn f s t=Rl.pJ f s/\(∀i,t.getLsbD i=true->s.getLsbD i=true)/\Below w w wr) (fun x _ _ _=>leftOf x)
 case atStart=>exact⟨s,rfl,rfl,rfl,rfl,fun _ h=>h,B1.y⟩
 obtain⟨t,rfl,rfl,rfl,j,l,c⟩:=hrel;by_cases e:t=0#64
 .subst e;have m:=aA (by rw[<-j,af4]:Rl.pJ f s=none) c;clear c j l;rw[vG.1,vG.2];go_wp2
  go_ret2
  exact⟨by unfold vH vK;rw[m.a];rfl,m.B⟩
 have u:=Bs.qA e;have F:=r.B _ (l _ u);have L:=((r.a.Z c r.a.lt)).row (Bs.low t) F;have v:=Bs.z8 e;have y:∀i,(Bs.rest t).getLsbD i=true->s.getLsbD i=true:=fun i z=>l i (by rw[Bs.Ai e]at z;simp at z;exact z.1);rw[(vJ e).1,(vJ e).2];have A:=@V3 f s t e;have o:=@Yo f s t e;have⟨a,C⟩:=eX (Bs.low t);rw[<-C]at L F A o⊢;have:(0:Int)<=(a:Int):=by omega
 have:(a:Int)<48:=by omega
 cases M:(f a&&&s==0#64)
 .have I:=(o M).s.t j;have g:=aY I y c v;clear I y c v j l u C e A o
  go_wp2_with fail
  refine(rD _ _ (E.y _ g.c).1 (E.y _ g.c).2).st fun P c=>?_;have N:=H (g.c.t (c.m g.c.size));clear c;go_wp2
  go_roundw
  case rel=>exact⟨Bs.rest t,rfl,rfl,rfl,g.a,g.b,N.y⟩
  rw[vS t];exact nh (nJ (vS (Bs.rest t))) g.D
 have I:Rl.pJ f s=a:=by grind
 have m:=aA I c;clear I c j l y u C e A o v;go_wp2
 go_ret2
 exact⟨by unfold vH vK;rw[m.a];rfl,m.B⟩
def SO(b)(n)(f)(s)(x)(y)(a:vH f s=x)(c:vK f s=y)(w)(e:aG w b n f)(g:∀i,s.getLsbD i=true->i<48)(h:bh w)(j:2<w.1.size):
 Calls prog 179 #[.pointer b,.int .u64 (Bv.U s)] w (Rs (Value.tuple #[x,y]) w):=by subst a c;exact agc b n f s w e g h j
def ZG(f)(k):Rl.lH f k 0#64=some []:=by cases k<;>simp[Rl.lH]
def adj{f}{k}{s}(a:s≠0#64)(h:Rl.pJ f s=none):Rl.lH f (k+1) s=none:=by simp[Rl.lH,a,h]
def acK{f}{k}{s}{a:Nat}(b:s≠0#64)(h:Rl.pJ f s=a):Rl.lH f (k+1) s=(Rl.lH f k (s&&& ~~~Bv.bit a)).map (a::·):=by simp[Rl.lH,b,h]
def qG(n:Int)(f:Rl.Rows):Option (List Nat):=if Rl.iq n f then Rl.lL n.toNat f else none
def Lc(a:Option (List Nat))(w:World)(e:Ending)(b:World):Prop:=
 ∃v,e= .returned (.tuple #[v,.bool a.isSome])/\b.ownsRow w.1.size 3 1 v (a.getD []).length (nums (a.getD []))/\Below w w b
def Yg(n)(f)(w)(b:Rl.iq n f=false):
 Calls prog 114 #[(ar n f)] w (Lc none w):=by
 have a:=aD (aG.new w n f) (ba w (.cells (ar n f) 53)) b;clear b;go_enter func114,ntmps114
 go_wp2_with (refine kk rfl (.tmp 1) rfl w n f rfl a.a ?_)
 with_reducible refine(lM _ _ _ a.C _).m ?_
 rintro e g ⟨rfl,b⟩;have c:=H (a.b.t (b.m a.b.size));clear b;go_wp2
 go_ret2
 exact⟨_,rfl,gI _ _ _ _,c.y⟩
def aff(n:Nat)(f:Rl.Rows)(w:World)(b:Rl.Ok n f)(c:bh w)(Q:2<w.1.size):
 Calls prog 114 #[.agg (ar n f)] w (Lc (Rl.lL n f) w):=by
 have ag:=b.le;have:=jk;have⟨R,I,T,X,aa⟩:=eQ zr;have g:∀W,Below w w W->bh W/\2<W.1.size:=fun W h=>⟨c.Z h Q,aW Q h.size⟩
 have t:=H g;have u:=aY (aG.new w n f) (ba w (.cells (ar n f) 53)) (Rl.oC b) b;have:¬ar 0 E=#[]:=by intro h;have:=cg Array.size h;rw[lY]at this;simp at this
 clear b c g;go_enter func114,ntmps114
 go_wp2_with (refine kk rfl (.tmp 1) rfl w.1.size n f rfl u.a ?_)
 with_reducible refine(lM _ _ _ u.c _).m ?_
 rintro e ah ⟨rfl,c⟩;have p:=aA (u.a.Z c (by simp)) (u.b.t (c.m u.b.size));clear c
 go_wp2_with (refine kk rfl (.tmp 1) rfl w.1.size n f rfl p.a ?_)
 with_reducible refine(Gq n f ah u.D (t.y _ p.B).1 (t.y _ p.B).2).m ?_
 rintro e J ⟨rfl,c⟩;have y:=aA (p.a.Z c p.a.lt) (p.B.t (c.m p.B.size));clear c
 go_wp2_with (refine fY rfl (.tmp 4) (.tmp 13) rfl J.1.size n 0 (Rl.dR n f) E rfl rfl (aG.new J 0 E) ?_;intro g o b;have l:=(y.a.alloc (.cells (ar 0 E) 53)).K b (by have:=y.a.lt;intro e;injection e with e;omega);have q:=(y.B.alloc y.B.size (.cells (ar 0 E) 53)).b b (by have:=y.B.size;simp;omega) (fun j e=>by have:=y.B.size;injection e with e;omega);have r:=l.num;have z:=aD o l q;clear o b l q)
 refine(LI _ _ (PC n) _).m ?_;rintro e ai ⟨rfl,rfl⟩
 go_wp2_with (at_make;refine wpList_make_own _ rfl _ _ 65 rfl g.1.size 3 R (.int .i64 0) 1 underlying65 I T X .i64 .i64 _ n rfl rfl (by first|rfl|(simp;done)|omega) (by rw[aa];omega) (by unfold maxLen;omega) (av _) ?_;intro o b l)
 have ab:=aA b ((aP g.1.size g).b l (av _) (fun k e=>by cases e));clear b l r
 go_loopw [5,6] (fun x v wr=>∃(s:BitVec 64)(k:Nat)(L:List Nat),x= .int .u64 (Bv.U s)/\wr.ownsRow g.1.size 3 1 v L.length (nums L)/\Rl.lL n f=(Rl.lH (Rl.dR n f) k s).map (L++·)/\Bx.card s<=k/\L.length+k=64/\(∀i,s.getLsbD i=true->i<48)/\Below g g wr) (fun x _ _=>leftOf x)
 case atStart=>exact⟨Rl.below (n:Int),64,[],rfl,ab.a,by unfold Rl.lL;simp,Bx.D4 _,rfl,aaW ag,ab.B⟩
 obtain⟨s,k,L,rfl,C,A,O,aj,q,c⟩:=hrel;by_cases o:s=0#64
 .subst o;have ak:(0#64 !=0#64)=false:=rfl;have F:Rl.lL n f=some L:=by rw[A,ZG];simp
  have r:w.1.size<=g.1.size:=z.C.size;have b:=aD F (ft C r) (z.C.t (c.m r));clear F C A O q c r;go_wp2
  go_ret2
  exact⟨_,by rw[b.a];rfl,by rw[b.a];exact b.b,b.C⟩
 have:(s !=0#64)=true:=by simpa using o
 have ad:=Bs.qA o;have ae:0<Bx.card s:=by unfold Bx.card;rw[Bs.pA o];simp
 obtain⟨j,rfl⟩:∃j,k=j+1:=⟨k-1,by omega⟩
 have r:w.1.size<=g.1.size:=z.C.size;have M:=z.C.t (c.m r);have N:=z.a.Z c z.a.lt;cases l:Rl.pJ (Rl.dR n f) s with
 |none=>
  have F:Rl.lL n f=none:=by rw[A,adj o l];rfl
  have b:=dC F N M q (show vH (Rl.dR n f) s=0 by unfold vH;rw[l]) (show vK (Rl.dR n f) s=false by unfold vK;rw[l];rfl);clear F C A O q c r M N l ad o ae
  go_wp2_with fail
  refine(SO J.1.size n (Rl.dR n f) s 0 false b.e b.F _ b.b b.d (t.y _ b.c).1 (t.y _ b.c).2).st fun O c=>?_;have z:=H (b.c.t (c.m b.c.size));clear c;go_wp2
  go_ret2
  exact⟨_,by rw[b.a];rfl,by rw[b.a];exact gI _ _ _ _,z.y⟩
 |some a=>
  have P:=(Rl.Th l).1;have:=q a P;have F:=Rl.BU s a P;have af:Rl.lL n f=(Rl.lH (Rl.dR n f) j (s&&& ~~~Bv.bit a)).map ((L++[a])++·):=by
   rw[A,acK o l,Option.map_map];congr 1;funext m;simp
  have b:=pn af N M q (show vH (Rl.dR n f) s=(a:Int) by unfold vH;rw[l]) (show vK (Rl.dR n f) s=true by unfold vK;rw[l];rfl) (show∀i,(s&&& ~~~Bv.bit a).getLsbD i=true->i<48 from fun i I=>q i ((Rl.Dz s a i (by omega)).1 I).1) F C c;clear af C A q c r M N l ad o ae P F;have:(0:Int)<=(a:Int):=by omega
  have:(a:Int)<64:=by omega
  go_wp2_with fail
  refine(SO J.1.size n (Rl.dR n f) s a true b.e b.f _ b.b b.d (t.y _ b.c).1 (t.y _ b.c).2).st fun O c=>?_;have l:=b.J.t (c.m b.J.size);have o:g.1.size<=O.1.size:=l.size;have z:=aA (PV b.i c (av _)) l;clear c l
  go_wp2_with (at_builtin;refine qJ _ rfl _ _ 65 rfl g.1.size 3 R (.int .i64 0) 1 8 underlying65 I T X aa rfl (dr rfl) _ _ _ rfl (z.a.alloc _) (O.1.size:Nat) 1 1 [.int .i64 a] rfl rfl (kN _ _ _) (by simp[Value.oneCell']) (by unfold maxLen;omega) (by omega) (by simp;omega) ?_;intro r c l q A)
  go_roundw
  case rel=>
   have r:Below g g c:=(z.B.alloc o _).b q (by simp;omega) (fun j e=>(z.a.lt j e).1);refine⟨s&&& ~~~Bv.bit a,j,L++[a],rfl,?_,b.a,by have:=b.h;omega,by simp;omega,b.g,r⟩;rw[pG];simpa using l
  have F:=b.h;rw[vS s];refine nh (nJ (vS (s&&& ~~~Bv.bit a))) ?_;unfold Bx.card at F;omega
def UP(n)(f)(w)(a:Rl.Z f)(b:bh w)(c:2<w.1.size):
 Calls prog 114 #[(ar n f)] w (Lc (qG n f) w):=by
 unfold qG;cases h:Rl.iq n f
 .exact Yg n f w h
 obtain⟨m,rfl,e⟩:=Rl.Mq a h;exact aff m f w e b c
def Rj(n)(f)(w)(g:Rl.Z f)(h:bh w)(i:2<w.1.size):
 Calls prog 73 #[(ar n f)] w (Rs (qG n f).isSome w):=by
 have c:=ba w (.cells (ar n f) 53);have a:=bM (aG.new w n f) c g (h.Z c i) (show 2<(w.alloc (.cells (ar n f) 53)).1.size by simp;omega);clear g h c;go_enter func73,ntmps73
 go_wp2_with (refine kk rfl (.tmp 1) rfl w n f rfl a.a ?_)
 with_reducible refine(UP n f _ a.c a.d a.E).m ?_
 rintro e l ⟨v,rfl,j,g⟩;have⟨b,c⟩:=eX (qG n f).isSome;rw[<-c];have h:=aA c (a.b.t (g.m (by simp)));clear g j c;go_wp2;go_ret;exact⟨by rw[<-h.a];rfl,h.B⟩
def Sh(n)(f)(b)(a:(qG n f).isSome=b)(w)(c:Rl.Z f)(e:bh w)(g:2<w.1.size):
 Calls prog 73 #[(ar n f)] w (Rs b w):=by subst a;exact Rj n f w c e g
def bP{w W:World}{base n}{e}{size}{v}{xs}(h:w.ownsRow base e size v n xs)(b:Below w w W):W.ownsRow base e size v n xs:=by
 refine⟨h.1,?_⟩;obtain j|⟨g,c,f,rfl,i,a,rest⟩:=h.2
 .grind
 exact .inr ⟨g,c,f,rfl,i,(b.block g (gS.1 a).1).t a,rest⟩
def E0{w W1}(h:∃p:Regrown,W1=Go.Sort.grow (redrawn w p.d) p.os):Below w w W1:=by
 obtain⟨⟨d,a⟩,rfl⟩:=h;exact jO _ _ _
def fJ{W W':World}{o}(a:(W.alloc o).grownBy W' (some W)):Below W W W':=
 (ba W o).b a (by simp) (fun k e=>by grind)
def N7{w:World}{b1 b2 n1 n2}{e1 e2}{s1 s2}{v1 v2}{x1 x2}(a:w.ownsRow b1 e1 s1 v1 n1 x1)(b:w.ownsRow b2 e2 s2 v2 n2 x2)(f:e1≠e2):v1.ownBlock=none\/v1.ownBlock≠v2.ownBlock:=by
 cases h:v1.ownBlock with
 |none=>exact .inl rfl
 |some g=>
  refine .inr fun e=>f ?_;have⟨c,i,j⟩:=IG a g h;have⟨l,m,n⟩:=IG b g e.s
  grind
end
section
attribute [local go_sem] Oper.semAt_some
attribute [local go_sem] Bv.fE Bv.fO Bv.fA Bv.fL Bv.fC Bv.gn Bv.fP Bv.fQ
def Kt{w:World}{base g n a:Nat}{e}{xs}{x:Value}(h:w.ownsRow base e 1 (.slice g (n+1) a) (n+1) (xs++[x]))(o:xs=n):
 w.ownsRow base e 1 (.slice g n a) n xs:=by
 refine⟨by omega,.inr ?_⟩;obtain⟨b,_⟩|⟨p,q,c,f,r,s,t,i,j,l⟩:=h.2
 .cases b
 injection f with e1 e2 m;subst m;refine⟨g,a,c,rfl,?_,?_,by omega,i,j,?_⟩
 .grind
 .grind
 have:=cg (List.take n) l
 grind
def xm(x:List Nat)(v:Value)(W:World):Prop:=∃g c,v= .slice (g:Nat) x.length c/\fK W (g:Nat) (ints x)
structure nI(B:Nat)(bb g N:Nat)(n:Int)(before:Rl.Rows)(l:List Nat)(fp:List Nat)(W:World):Prop where
 ne:bb≠g
 nb:bb∉fp
 ng:g∉fp
 bs:B<=W.1.size
 rel:aG W bb n before
 row:W.ownsRow B 3 1 (.slice g l.length N) l.length (nums l)
def nI.On{B bb g N}{n}{before}{l fp}{W}(h:nI B bb g N n before l fp W):B<=g/\g<W/\l<=N/\N<=maxLen:=by
 obtain⟨f,_⟩|⟨i,o,r,u,w,y,A,C,E,F⟩:=h.row.2
 .cases f
 grind
def nI.aay{B bb g N}{n}{before}{l fp fp'}{W W'}(h:nI B bb g N n before l fp W)(r:B<=bb)(f:Rg.fh B fp fp' W W'):nI B bb g N n before l fp' W':=by
 have⟨u,w,_,_⟩:=h.On;refine⟨h.ne,fun o=>?_,fun o=>?_,aO h.bs f.size,(f.keep bb r h.rel.lt h.nb).t h.rel,?_⟩
 .obtain i|i:=f.new _ o
  .exact h.nb i
  have:=h.rel.lt;omega
 .obtain i|i:=f.new _ o
  .exact h.ng i
  omega
 refine⟨h.row.1,.inr ?_⟩;obtain⟨y,_⟩|⟨I,J,A,C,E,F,rest⟩:=h.row.2
 .cases y
 injection C with e1 e2 H
 iterate 2(injection e1 with e1)
 subst e1 H;exact⟨g,N,A,rfl,E,(f.keep g u w h.ng).t F,rest⟩
def ac9{F}{n}{P:Program}(w){o}{a}{K}{Q}
 (s x)(t)(l:o.op=Op.call {callee:=Callee.builtin Builtin.append,args:=#[s,x],argTypes:=#[t,t]})
 (base)(e)(i:TypeInfo)(size)(p:P.underlying t=some (.slice e))(q:P.info? e=i)(r:i.size=size)
 (g k b:Nat)(xs)(v:a.eval s= .slice g k b)(y:w.ownsRow base e size (.slice g k b) k xs)(ad)(m c)(f:List Value)(z:a.eval x= .slice (some ad) m c)(A:f=m*size)
 (C:∀j u,f[j]? =some u->w.cell? (ad.add j)=some u)(E:∀u∈f,u.oneCell'=true)(H:k+m<=b)
 (I:∀h,h.ownsRow base e size (.slice g (k+m) b) (k+m) (xs++f)->w.grownBy h (some g)->K (a.put o.dst (.slice g (k+m) b)) h):
 Oper.wpIn F n P o a w K Q:=by
 have⟨h,J,L,M⟩:=run_append_fits (P:=P) w base t o.type e i size p q r g k b xs y ad m c f A C E H;unfold Oper.wpIn;refine⟨?_,?_⟩
 .simp[Oper.about,l,resolve,Target.leads,eZ]
 rw[oG F _ _ (by grind)];simp[execOp,l,resolve,invoke,builtin,v,z,J,Result.andThen];exact I h L M
def Az{n}{P}{w}{o}{a}{K}{Q}(f)(args)(g:∀c,o.op≠ .defer c)
 (i:(execOp a.eval o).run P w= .ok (.enter f args) w)(h:CallsIn Fence.wide (n-1) P f args w fun e b=>∃v,e= .returned v/\K (a.put o.dst v) b):Oper.wpIn Fence.wide n P o a w K Q:=by
 unfold Oper.wpIn;refine⟨fun _ _=>trivial,?_⟩;rw[oG Fence.wide _ _ g,i,Oper.uponIn_enter];exact⟨fun h=>(by cases h),h.m fun e b ⟨v,j,l⟩=>by grind⟩
abbrev Yields(g B:Nat)(xs:List (List Nat))(b:List (List Nat)->List Nat->World->Prop)(h:List (List Nat)->World->Prop):Prop:=
 ∀m a c x v W1,b a c W1->B<=W1.1.size->a++[x]<+:xs->xm x v W1->YieldAt Fence.wide m prog g #[v] W1 fun e W'=>
    (e= .returned (.bool true)/\∃f,b (a++[x]) f W'/\Rg.fh B c f W1 W')\/(e= .returned (.bool false)/\h (a++[x]) W')
def SE(t B:Nat)(xs:List (List Nat))(n:Int)(u:Rl.Rows)(f g a:Nat)(o:List (List Nat)->List Nat->World->Prop)(v:List (List Nat)->World->Prop)
 (w:Yields t B xs o v)(A:B<=f)(l:List Nat)(m:Nat)(i:List (List Nat))(p:List Nat)(W:World)(r:i++[l]<+:xs)(x:o i p W)(c:nI B f g a n u l p W):
  CallsIn Fence.wide m prog 219 #[.pointer f,.int .u64 (Bv.U 0#64),.slice g l.length a,.func (.yield t) #[] #[]] W fun e W'=>
   ∃b,e= .returned (.bool b)/\(b=true->∃j,o (i++[l]) j W'/\nI B f g a n u l j W'/\W.1.size<=W'.1.size)/\(b=false->∃q,q<+:xs/\v q W'):=by
 have⟨E,F,e1,_,_,C⟩:=tI c.row;have⟨fn,tmps,assign,body,y,s⟩:=w (m-1) i p l (.slice g l.length a) W x c.bs r ⟨g,a,rfl,by grind⟩;have:(0#64==0#64)=true:=rfl;have z:=aA c r;clear w c r x e1 C;refine rM func219 rfl trivial ?_ rfl;simp only[ntmps219,jC,gL,iP,Nat.reduceAdd,Nat.reduceSub,j8,j5,kh,kj,gG,iJ]
 gi_wp2_with fail
 try(refine⟨fun h=>(by cases h),?_⟩)
 refine s.m ?_;rintro e W3 (⟨rfl,j,r,w⟩|⟨rfl,x⟩)
 .have c:=aA r w;clear r w s y
  gi_wp2
  refine bK (uT rfl _ _ _) rfl ?_;exact⟨true,rfl,fun _=>⟨j,c.a,z.a.aay A c.B,c.B.size⟩,fun h=>by cases h⟩
 have c:=H x;clear x s y
 gi_wp2
 refine bK (uT rfl _ _ _) rfl ?_;exact⟨false,rfl,fun h=>(by cases h),fun _=>⟨_,z.B,c.y⟩⟩
def nI.Z{B bb g N}{n}{before}{l fp}{W W'}(h:nI B bb g N n before l fp W)(f:Below W W W'):nI B bb g N n before l fp W':=
 ⟨h.ne,h.nb,h.ng,aO h.bs f.size,h.rel.Z f h.rel.lt,bP h.row f⟩
def Nf(before)(left)(a):(before a&&&left==0#64)=Rl.uS before left a:=rfl
def Qn{s}(h:s≠0#64){i}(a:(Bs.rest s).getLsbD i=true):s.getLsbD i=true:=by
 rw[Bs.Ai h,cH]at a
 grind
def aab(X B:Nat)(xs:List (List Nat))(n:Int)(t:Rl.Rows)(C g y:Nat)(E:List (List Nat)->List Nat->World->Prop)(ad:List (List Nat)->World->Prop)
 (I:∀p x W,E p x W->bh W/\2<W.1.size)
 (R:∀p x W1 M,E p x W1->Rg.Steps B x W1 M->E p x M)
 (J:Yields X B xs E ad)(am:B<=C):
 ∀(k:Nat)(left:BitVec 64)(l:List Nat)(m:Nat)(p:List (List Nat))(x:List Nat)(W:World),Bx.card left<=k->l+Bx.card left<=y->(∀i,left.getLsbD i=true->i<48)->
  p++Rl.ext t k left l<+:xs->E p x W->nI B C g y n t l x W->
  CallsIn Fence.wide m prog 219 #[.pointer C,.int .u64 (Bv.U left),.slice g l y,.func (.yield X) #[] #[]] W fun e W'=>
   ∃b,e= .returned (.bool b)/\(b=true->∃A,E (p++Rl.ext t k left l) A W'/\nI B C g y n t l A W'/\W.1.size<=W'.1.size)/\(b=false->∃q,q<+:xs/\ad q W'):=by
 have⟨ap,N,aC,ar,aE⟩:=eQ zr;intro k
 induction k with
 |zero=>
  intro left l m p x W L O P v s f;have Q:left=0#64:=Rl.Qr (by omega);subst Q;exact SE X B xs n t C g y E ad J am l m p x W v s f
 |succ k T=>
  intro left l m p x W L O P v s f;by_cases Q:left=0#64
  .subst Q;rw[Rl.ext_nil]at v⊢;exact SE X B xs n t C g y E ad J am l m p x W v s f
  rw[Rl.S8 Q]at v⊢;have:(left==0#64)=false:=by simp[Q]
  have z:=aY T I R v;have F:=dC s f (I _ _ _ s) L O P;have aa:=vJ Q;have ae:=H aa;clear T I R v s f J L O P aa;refine rM func219 rfl trivial ?_ rfl;simp only[ntmps219,jC,gL,iP,Nat.reduceAdd,Nat.reduceSub,j8,j5,kh,kj,gG,iJ]
  gi_wp2_with fail
  first|refine⟨trivial,fun h=>(by cases h),?_⟩|refine⟨trivial,?_⟩
  refine(dh.2 (afv left (Bs.low left:Nat) true ae.a ae.B W F.c.1 F.c.2)).st fun aF v=>?_;have aj:=aD (z.c _ _ _ _ F.a (.gz v)) (F.b.Z v) v.size;clear v
  gi_wp2
  gi_loopw [9,10,11] (fun r a I wr=>∃(rest:BitVec 64)(aa:List (List Nat))(A:List Nat),r= .int .u64 (Bv.U rest)/\a= .int .i64 (nO rest)/\I= .bool (lS rest)/\(∀i,rest.getLsbD i=true->left.getLsbD i=true)/\
   aa++Rl.oW t k left l rest=p++Rl.oW t k left l left/\E aa A wr/\nI B C g y n t l A wr/\W.1.size<=wr) (fun r _ _ _=>Ch r)
  case atStart=>exact⟨left,p,x,rfl,by rw[ae.a],by rw[ae.B],fun _ h=>h,rfl,aj.a,aj.b,aj.C⟩
  obtain⟨rest,aa,A,rfl,rfl,rfl,O,I,s,f,R⟩:=hrel;by_cases J:rest=0#64
  .subst J;rw[Rl.aef,kL]at I;rw[vG.1,vG.2];have af:=aY s f I R;clear s f I O R
   gi_wp2
   refine bK (uT rfl _ _ _) rfl ?_;exact⟨true,rfl,fun _=>⟨A,by rw[<-af.c];exact af.a,af.b,af.D⟩,fun h=>by cases h⟩
  have ag:=vJ J;rw[ag.1,ag.2];have ah:=Bs.qA (J);have:=F.F _ (O _ ah);have⟨a,L⟩:=eX (Bs.low rest);have ak:=z.b _ _ _ s;have ai:=Bs.z8 (J);cases T:Rl.uS t left (Bs.low rest)
  .have aG:(t a&&&left==0#64)=false:=by rw[Nf,L];exact T
   rw[Rl.adB J T]at I;have an:=fun d au=>(yz f.rel d au).row a (by omega);have aH:(0:Int)<=(a:Int):=by omega
   have aI:(a:Int)<48:=by omega
   have p:=dH s f I O R ak ai;have al:=H J;rw[<-L];clear s f I O R ak ag ah T L ai
   gi_wp2
   refine wpIn_region_quiet_below rfl (by kernel_rfl) (by kernel_rfl) ?_
   repeat(refine wpQuietIn_step (fun _ _ _ _=>trivial) (fun K x=>?_);go_simp;refine x _ ?_;clear x K)
   refine wpQuietIn_nil ?_;intro M P;have ab:=aD (z.c _ _ _ _ p.a (.gz (E0 P))) (p.b.Z (E0 P)) (aO p.e (E0 P).size);clear P an
   gi_wp2_with fail
   first|refine⟨trivial,fun h=>(by cases h),?_⟩|refine⟨trivial,?_⟩
   refine(dh.2 (rD (Bs.rest rest) M (z.b _ _ _ ab.a).1 (z.b _ _ _ ab.a).2)).st fun aw v=>?_;have P:=aD (z.c _ _ _ _ ab.a (.gz v)) (ab.b.Z v) (aO ab.C v.size);clear v
   gi_wp2
   go_roundw
   case rel=>exact⟨Bs.rest rest,aa,A,rfl,rfl,rfl,fun i N=>p.d i (Qn al.y N),p.c,P.a,P.b,P.C⟩
   rw[vE rest];exact nh (nJ (vE (Bs.rest rest))) p.G
  have:(t a&&&left==0#64)=true:=by rw[Nf,L];exact T
  rw[Rl.ada J T,<-kZ,<-L]at I;have an:=Rl.BU left a (by rw[L];exact O _ ah);have⟨ao,ax,ay,az⟩:=f.On;have:=f.rel.row a (by omega);have:(0:Int)<=(a:Int):=by omega
  have:(a:Int)<48:=by omega
  have aB:l+1<=y:=by have:=F.e;omega
  have p:=gQ I O R ai s f ao (show∀i,(left&&& ~~~Bv.bit a).getLsbD i=true->i<48 from fun i N=>F.F i ((Rl.Dz left a i (by omega)).1 N).1) an;have al:=H J;rw[<-L];clear s f I O R ak ag ah T L ai ao ax ay az an
  gi_wp2
  refine Dl (by kernel_rfl) ?_;change wpAnyIn _ _ _ _ _ _ _ _ _ (World.drew _);refine jq 0 ?_ (by simp only[u];rfl) (by kernel_rfl) (by exact fun _ _ _ h=>h) ⟨.inl ⟨by rfl,?_⟩,by exact fun _=>rfl⟩ rfl ?_
  rotate_left
  .intro w;go_simp;try(with_reducible rfl)
  try simp only[o]
  refine jq 1 ?_ (by simp only[u];rfl) (by kernel_rfl) (by exact fun _ _ _ h=>h) ⟨.inl ⟨by rfl,?_⟩,by exact fun _=>rfl⟩ rfl ?_
  rotate_left
  .intro w;go_simp;try(with_reducible rfl)
  try simp only[o]
  refine jq 2 ?_ (by simp only[u];rfl) (by kernel_rfl) (by exact fun _ _ _ h=>h) ⟨.inl ⟨by rfl,?_⟩,by exact fun _=>rfl⟩ rfl ?_
  rotate_left
  .intro w;go_simp;try(with_reducible rfl)
  try simp only[o]
  refine jq 3 ?_ (by simp only[u];rfl) (by kernel_rfl) (by exact fun _ _ _ h=>h) ⟨.inl ⟨by rfl,?_⟩,by exact fun _=>rfl⟩ rfl ?_
  rotate_left
  .intro w;go_simp;try(with_reducible rfl)
  try simp only[o]
  refine jq 4 ?_ (by simp only[u];rfl) (by kernel_rfl) (by exact fun _ _ _ h=>h) ⟨.inl ⟨by rfl,?_⟩,by exact fun _=>rfl⟩ rfl ?_
  rotate_left
  .intro w;go_simp;try(with_reducible rfl)
  try simp only[o]
  refine jq 6 ?_ (by simp only[u];rfl) (by kernel_rfl) (by exact fun _ _ _ h=>h) ⟨.inl ⟨by rfl,?_⟩,by exact fun _=>rfl⟩ rfl ?_
  rotate_left
  .intro w;go_simp;try(with_reducible rfl)
  try simp only[o]
  refine gV 5 (by kernel_rfl) (by simp only[u];rfl) fun K x=>?_;go_simp;refine x _ _ ?_;clear x K
  try simp only[o]
  refine jq 7 ?_ (by simp only[u];rfl) (by kernel_rfl) (by exact fun _ _ _ h=>h) ⟨.inl ⟨by rfl,?_⟩,by exact fun _=>rfl⟩ rfl ?_
  rotate_left
  .intro w;go_simp;try(with_reducible rfl)
  try simp only[o]
  refine jq 8 ?_ (by simp only[u];rfl) (by kernel_rfl) (by exact fun _ _ _ h=>h) ⟨.inl ⟨by rfl,?_⟩,by exact fun _=>rfl⟩ rfl ?_
  rotate_left
  .intro w;go_simp;try(with_reducible rfl)
  try simp only[o]
  refine jq 9 ?_ (by simp only[u];rfl) (by kernel_rfl) (by exact fun _ _ _ h=>h) ⟨.inl ⟨by rfl,?_⟩,by exact fun _=>rfl⟩ rfl ?_
  rotate_left
  .intro w;go_simp;try(with_reducible rfl)
  try simp only[o]
  refine jq 10 ?_ (by simp only[u];rfl) (by kernel_rfl) (by exact fun _ _ _ h=>h) ⟨.inl ⟨by rfl,?_⟩,by exact fun _=>rfl⟩ rfl ?_
  rotate_left
  .intro w;go_simp;try(with_reducible rfl)
  try simp only[o]
  refine jq 11 ?_ (by simp only[u];rfl) (by kernel_rfl) (by exact fun _ _ _ h=>h) ⟨.inl ⟨by rfl,?_⟩,by exact fun _=>rfl⟩ rfl ?_
  rotate_left
  .intro w;go_simp;try(with_reducible rfl)
  try simp only[o]
  refine jq 12 ?_ (by simp only[u];rfl) (by kernel_rfl) (by exact fun _ _ _ h=>h) ⟨.inl ⟨by rfl,?_⟩,by exact fun _=>rfl⟩ rfl ?_
  rotate_left
  .intro w;go_simp;try(with_reducible rfl)
  try simp only[o]
  refine jq 13 ?_ (by simp only[u];rfl) (by kernel_rfl) (by exact fun _ _ _ h=>h) ⟨.inl ⟨by rfl,?_⟩,by exact fun _=>rfl⟩ rfl ?_
  rotate_left
  .intro w;go_simp;try(with_reducible rfl)
  try simp only[o]
  refine jq 14 ?_ (by simp only[u];rfl) (by kernel_rfl) (by exact fun _ _ _ h=>h) ⟨.inl ⟨by rfl,?_⟩,by exact fun _=>rfl⟩ rfl ?_
  rotate_left
  .intro w;go_simp;try(with_reducible rfl)
  try simp only[o]
  refine jq 15 ?_ (by simp only[u];rfl) (by kernel_rfl) (by exact fun _ _ _ h=>h) ⟨.inl ⟨by rfl,?_⟩,by exact fun _=>rfl⟩ rfl ?_
  rotate_left
  .intro w;go_simp;try(with_reducible rfl)
  try simp only[o]
  refine jq 16 ?_ (by simp only[u];rfl) (by kernel_rfl) (by exact fun _ _ _ h=>h) ⟨.inl ⟨by rfl,?_⟩,by exact fun _=>rfl⟩ rfl ?_
  rotate_left
  .intro w;go_simp;try(with_reducible rfl)
  try simp only[o]
  refine jq 19 ?_ (by simp only[u];rfl) (by kernel_rfl) (by exact fun _ _ _ h=>h) ⟨.inl ⟨by rfl,?_⟩,by exact fun _=>rfl⟩ rfl ?_
  rotate_left
  .intro w;go_simp;try(with_reducible rfl)
  try simp only[o]
  refine gV 17 (by kernel_rfl) (by simp only[u];rfl) fun K x=>?_;go_simp;refine x _ _ ?_;clear x K
  try simp only[o]
  refine gV 18 (by kernel_rfl) (by simp only[u];rfl) fun K x=>?_;rw[aq (by rfl)];refine ac9 _ (.tmp 44) (.tmp 46) 65 rfl B 3 ap 1 underlying65 N ar g l y (nums l) rfl ((p.f.row.alloc _).drew) wr 1 1 [(a:Int)] rfl rfl (kN _ _ _) (by simp[Value.oneCell']) aB ?_;intro R T I;refine x _ _ ?_;clear x K
  try simp only[o]
  have L:Below wr wr ((wr.alloc (.cells #[(a:Int)] 3)).drew):=(ba wr (.cells #[(a:Int)] 3)).t ⟨rfl,rfl,rfl,av _,fun _ _=>rfl⟩;have f:=p.f;have ag:Rg.Steps B A wr R:=(Rg.Steps.gz L).t ⟨I.os,I.tape,I.output,I.size,fun j s O=>I.block j s (fun e=>by
   cases e;obtain O|O:=O
   .have:=p.g;omega
   .exact f.ng O)⟩
  have ah:nI B C g y n t (l++[a]) A R:=⟨f.ne,f.nb,f.ng,aO f.bs (aO L.size I.size),((f.rel.Z L f.rel.lt).K I (fun e=>f.ne (by injection e))),by
   rw[dc,pG];exact T⟩
  have ai:=aO p.c (aO L.size I.size);have O:=z.a (left&&& ~~~Bv.bit a) (l++[a]) (m-1) aa A R (by have:=F.d;have:=p.I;omega) (by rw[dc];have:=F.e;have:=p.I;simp;omega) p.h (by
   have A:=z.D;rw[<-p.a]at A;exact(List.prefix_append _ _).t A) (z.c _ _ _ _ p.e ag) ah
  rw[dc]at O;clear T I L ag ah f;refine gV 20 (by kernel_rfl) (by simp only[u];rfl) fun K x=>?_;rw[aq (by rfl)];refine Az 219 #[.pointer C,.int .u64 (Bv.U (left&&& ~~~Bv.bit a)),.slice g (l+1) y,.func (.yield X) #[] #[]] (by intro c h;cases h) (by simp[execOp,go_sem]) ?_;refine O.m ?_;rintro e M ⟨b,rfl,A,I⟩;refine⟨_,rfl,?_⟩;refine x _ _ ?_;clear x K O
  try simp only[o]
  refine jq 21 ?_ (by simp only[u];rfl) (by kernel_rfl) (by exact fun _ _ _ h=>h) ⟨.inl ⟨by rfl,?_⟩,by exact fun _=>rfl⟩ rfl ?_
  rotate_left
  .intro w;go_simp;try(with_reducible rfl)
  try simp only[o]
  refine jq 22 ?_ (by simp only[u];rfl) (by kernel_rfl) (by exact fun _ _ _ h=>h) ⟨.inl ⟨by rfl,?_⟩,by exact fun _=>rfl⟩ rfl ?_
  rotate_left
  .intro w;go_simp;try(with_reducible rfl)
  try simp only[o]
  refine DM (by kernel_rfl) ?_ _;cases b
  .have⟨q,x,L⟩:=I rfl;have f:=aA x L;clear A I x L
   gi_wp2
   refine bK (uT rfl _ _ _) rfl ?_;exact⟨false,rfl,fun h=>(by cases h),fun _=>⟨q,f.a,f.B⟩⟩
  have⟨L,O,x,T⟩:=A rfl;have f:=aD O (show nI B C g y n t l L M from⟨x.ne,x.nb,x.ng,x.bs,x.rel,Kt (by have h:=x.row;rw[dc,pG]at h;exact h) (by simp[nums])⟩) (aO ai T);clear A I O x T ai
  gi_wp2_with fail
  first|refine⟨trivial,fun h=>(by cases h),?_⟩|refine⟨trivial,?_⟩
  refine(dh.2 (rD (Bs.rest rest) M (z.b _ _ _ f.a).1 (z.b _ _ _ f.a).2)).st fun aw v=>?_;have P:=aD (z.c _ _ _ _ f.a (.gz v)) (f.b.Z v) (aO f.C v.size);clear v
  gi_wp2
  go_roundw
  case rel=>exact⟨Bs.rest rest,_,L,rfl,rfl,rfl,fun i N=>p.b i (Qn al.y N),p.a,P.a,P.b,P.C⟩
  rw[vE rest];exact nh (nJ (vE (Bs.rest rest))) p.d
end
namespace Rl
def eL(n:Nat)(f:Rows):List (List Nat):=if(lL n f).isSome then ext (dR n f) 64 (below (n:Int)) []else []
end Rl
section
attribute [local go_sem] Oper.semAt_some
attribute [local go_sem] Bv.fE Bv.fO Bv.fA Bv.fL Bv.fC Bv.gn Bv.fP Bv.fQ
def agE(k):Fence.wide.room k:=fun d h=>by cases h
def NA{m}(m'){P}{l}{args}{W}{R}(h:YieldAt Fence.wide m P l args W R):YieldAt Fence.wide m' P l args W R:=by
 obtain⟨fn,tmps,assign,body,b,a⟩:=h;exact⟨fn,tmps,assign,body,b,a.1,fun c cs _=>a.2 c cs (agE _)⟩
def Gx{n}{P:Program}(w:World){o}{a}{K}{Q}(l c)(t)(f:o.op=Op.makeSlice t l c)
 (base:Nat)(e)(i:TypeInfo)(z:Value)(size)(g:P.underlying t=some (.slice e))(h:P.info? e=i)(j:i.zero=z)(p:i.size=size)
 (kl kc)(m)(q:a.eval l= .int kl 0)(r:a.eval c= .int kc (m:Int))(s:i.bytes*m<=281474976710656)(u:m<=maxLen)(v:base<=w)
 (x:∀b,b.ownsRow base e size (.slice w 0 m) 0 []->w.grownBy b none->K (a.put o.dst (.slice w 0 m)) b):Oper.wpIn Fence.wide n P o a w K Q:=by
 have⟨b,y,A,C⟩:=run_make_own (P:=P) w base t e i z size g h j p kl kc m s u v;unfold Oper.wpIn;refine⟨fun _ _=>trivial,?_⟩;rw[oG Fence.wide _ _ (by grind)];simp[execOp,f,q,r,y,Result.andThen];exact x b A C
def aas(n)(f)(w):
 Calls prog 170 #[(ar n f)] w fun e a=>e= .returned (.func (.func 218) #[] #[.pointer w])/\a=w.alloc (.cells (ar n f) 53):=by
 go_enter func170,ntmps170;go_wp2;go_ret;exact⟨rfl,rfl⟩
def Fq{m}{ops}{rest}{op}{a}{w}{Q}(c:op.guard=none)(x)(e:op.op= .load 53 x)
 (b)(n)(f)(g:a.eval x= .pointer b)(i:aG w b n f)
 (h:wpListIn Fence.wide m prog ops Q rest (a.put op.dst (ar n f)) w):wpListIn Fence.wide m prog ops Q (op::rest) a w:=by
 refine xr c fun K j=>?_;unfold Oper.wpIn;refine⟨fun _ _=>trivial,?_⟩;rw[oG Fence.wide _ _ (by grind)];unfold execOp;simp only[e,g,Instr.loadAt,Instr.sureAddr,eD,eZ,eY,vW (P:=prog) _ b 53 53 (ar n f) (0,0) _ i gT rfl (jT n f)];exact j _ _ h
def adL{m'}{ops}{rest}{op}{a}{w}{Q}(j:op.guard=none)(x y)(l:op.op= .store 53 x y)
 (b)(m n)(g f)(o:a.eval x= .pointer b)(p:a.eval y= .agg (ar m g))(i:aG w b n f)
 (h:∀c,aG c b m g->w.grownBy c (some b)->wpListIn Fence.wide m' prog ops Q rest (a.put op.dst undef) c):wpListIn Fence.wide m' prog ops Q (op::rest) a w:=by
 refine xr j fun K c=>?_;have q:aG (w.setRow b (ar m g)) b m g:=Ed w b (ar n f) _ 53 (0,0) i;have r:w.grownBy (w.setRow b (ar m g)) (some b):=⟨rfl,rfl,rfl,by simp,fun k _ s=>Gu w b k _ (fun e=>s (by rw[e]))⟩
 unfold Oper.wpIn;refine⟨fun _ _=>trivial,?_⟩;rw[oG Fence.wide _ _ (by grind)];unfold execOp;simp only[l,o,p,Instr.storeAt,Instr.sureAddr,eD,eZ,eY,(ED (P:=prog) w b 53 53 (ar n f) (ar m g) i (jT m g) (by rw[lY,lY]) (MS m g))];exact c _ _ (h _ q r)
def XA(n)(f)(b:Rl.Ok n f)(c:(Rl.lL n f).isSome=false)(pb)(w0)(e:aG w0 pb n f)(m):
 Rg.mH Fence.wide m prog 218 #[.pointer pb] xm (Rl.eL n f) (fun _ W=>bh W/\2<W.1.size) w0:=by
 intro s t u p W q v i j r g;have l:Rl.eL n f=[]:=by unfold Rl.eL;rw[c];rfl
 rw[l];have o:(qG n f).isSome=false:=by unfold qG;rw[Rl.oC b,aq rfl,sf];exact c
 have a:=dC (e.Z q e.lt) (i _ _ _ g) g j o b.z;clear e i g j r o b c l;refine rM func218 rfl trivial ?_ rfl;simp only[ntmps218,jC,gL,iP,Nat.reduceAdd,Nat.reduceSub,j8,j5,kh,kj,gG,iJ]
 gi_wp2_with (refine Fq rfl (.tmp 1) rfl pb n f rfl a.a ?_)
 first|refine⟨trivial,fun h=>(by cases h),?_⟩|refine⟨trivial,?_⟩
 refine(dh.2 (Sh n f false a.e W a.F a.b.1 a.b.2)).st fun e b=>?_;have c:=H (a.d _ _ _ _ a.c (.gz b));clear b
 gi_wp2
 refine bK (ju rfl _ _ _) rfl ?_;exact⟨⟨_,rfl⟩,.inl ⟨p,c.y⟩⟩
def abX(n:Nat)(f:Rl.Rows)(j:Rl.Ok n f)(s:(Rl.lL n f).isSome=true)(P:Nat)(w0:World)(t:aG w0 P n f)(m:Nat):
 Rg.mH Fence.wide m prog 218 #[.pointer P] xm (Rl.eL n f) (fun _ W=>bh W/\2<W.1.size) w0:=by
 have⟨Q,H,R,X,aa⟩:=eQ zr;have:=jk;have:¬ar 0 E=#[]:=by intro h;have:=cg Array.size h;rw[lY]at this;simp at this
 intro ab ad af al W ao C l y z A;have a:Rl.eL n f=Rl.ext (Rl.dR n f) 64 (Rl.below (n:Int)) []:=by unfold Rl.eL;rw[s];rfl
 have⟨xs,I⟩:=eX (Rl.eL n f);rw[<-I]at z a⊢;have p:(qG n f).isSome=true:=by unfold qG;rw[Rl.oC j,aq rfl,sf];exact s
 have:=j.le;have J:Yields ab W.1.size xs ad af:=fun m' ap F x v W1 ag ah ai aj=>NA m' (z ap F x v W1 ag ah ai aj);have N:∀(m':Nat)(L:Nat)(F:List Nat)(M:World)(g:Nat),W.1.size<=L->L≠g->L∉F->g∉F->W.1.size<=M.1.size->aG M L n (Rl.dR n f)->M.ownsRow W.1.size 3 1 (.slice (g:Nat) 0 n) 0 []->ad [] F M->
  CallsIn Fence.wide m' prog 219 #[.pointer (L:Nat),.int .u64 (Bv.U (Rl.below (n:Int))),.slice (g:Nat) 0 n,.func (.yield ab) #[] #[]] M fun e W'=>
   ∃b,e= .returned (.bool b)/\((∃F,ad xs F W')\/(∃q,q<+:xs/\af q W')):=fun m' L F M g ag ah ai aj au aw ax ay=>by
  have az:Bx.card (Rl.below (n:Int))<=n:=by
   have aB:(Bs.cZ (Rl.below (n:Int))).length<=(List.range n).length:=T4 (Bs.Ar _|>.imp (fun h=>xp h)) fun x a=>by
    have:=Bs.pH.1 a;rw[Rl.qZ _ _ (Bx.mV this)]at this;exact fS.2 (mf this)
   simpa[Bx.card]using aB
  refine(aab ab W.1.size xs n (Rl.dR n f) L g n ad af l y J ag 64 (Rl.below (n:Int)) [] m' [] F M (Bx.D4 _) (by simpa using az) (fun i H=>by
   rw[Rl.qZ _ _ (Bx.mV H)]at H;have:=mf H;omega) (by rw[a];exact List.prefix_refl _) ay ⟨ah,ai,aj,au,aw,ax⟩).m ?_
  rintro e W' ⟨b,p,aC,aE⟩;refine⟨b,p,?_⟩;cases b with
  |true=>have⟨aF,aH,_⟩:=aC rfl;exact .inl ⟨aF,by rw[a];exact aH⟩
  |false=>exact .inr (aE rfl)
 have r:=gQ (t.Z ao t.lt) (l _ _ _ A) A y p j l N C;clear t l A y z J p j s a N I C;refine rM func218 rfl trivial ?_ rfl;simp only[ntmps218,jC,gL,iP,Nat.reduceAdd,Nat.reduceSub,j8,j5,kh,kj,gG,iJ]
 gi_wp2_with (refine Fq rfl (.tmp 1) rfl P n f rfl r.a ?_)
 first|refine⟨trivial,fun h=>(by cases h),?_⟩|refine⟨trivial,?_⟩
 refine(dh.2 (Sh n f true r.e W r.f.z r.b.1 r.b.2)).st fun aI y=>?_;have a:=r.d _ _ _ _ r.c (.gz y);have I:=aY a (r.a.Z y r.a.lt) (r.g _ _ _ a) y;clear y a
 gi_wp2_with (refine Fq rfl (.tmp 1) rfl P n f rfl I.b ?_)
 first|refine⟨trivial,fun h=>(by cases h),?_⟩|refine⟨trivial,?_⟩
 refine(dh.2 (Gq n f aI r.f I.c.1 I.c.2)).st fun J y=>?_;have N:=aD (r.d _ _ _ _ I.a (.gz y)) (I.b.Z y I.b.lt) (I.D.t (y.m I.D.size));clear y
 gi_wp2_with (refine adL rfl (.tmp 3) (.tmp 8) rfl J.1.size n 0 (Rl.dR n f) E rfl rfl (aG.new J 0 E) ?_;intro j l t)
 have a:Below J.1.size J j:=fJ t;have ae:=N.C.size;have p:=N.b.Z a N.b.lt;have s:=bM (r.d _ _ _ _ N.a (.gz a)) l p (N.C.t (a.m ae)) (show∀b∈al,b<J.1.size from fun b y=>aW (r.I b y) ae);have:=p.num;have O:W.1.size<=j.1.size:=aO ae a.size;have:J.1.size<j.1.size:=l.lt;have:((n:Nat):Int)=(n:Int):=rfl;clear a l t p
 gi_wp2
 refine Dl (by kernel_rfl) ?_;change wpAnyIn _ _ _ _ _ _ _ _ _ (World.drew _);refine jq 0 ?_ (by simp only[u];rfl) (by kernel_rfl) (by exact fun _ _ _ h=>h) ⟨.inl ⟨by rfl,?_⟩,by exact fun _=>rfl⟩ rfl ?_
 rotate_left
 .intro w;go_simp;try(with_reducible rfl)
 try simp only[o]
 refine jq 3 ?_ (by simp only[u];rfl) (by kernel_rfl) (by exact fun _ _ _ h=>h) ⟨.inl ⟨by rfl,?_⟩,by exact fun _=>rfl⟩ rfl ?_
 rotate_left
 .intro w;go_simp;try(with_reducible rfl)
 try simp only[o]
 refine jq 6 ?_ (by simp only[u];rfl) (by kernel_rfl) (by exact fun _ _ _ h=>h) ⟨.inl ⟨by rfl,?_⟩,by exact fun _=>rfl⟩ rfl ?_
 rotate_left
 .intro w;go_simp;try(with_reducible rfl)
 try simp only[o]
 refine(fun(T:∀p,RowKit.Hid (Below j j p/\p.ownsRow W.1.size 3 1 (.slice j 0 n) 0 [])->(?G:World->Prop) p)=>?_) ?_;rotate_left
 .refine(fun(am:True->?G2)=>?_) ?_;rotate_left
  .refine uy (rs:=[1,4]) (by kernel_rfl) (by simp) ?_;refine(kT (by simp only[u];rfl) (fun K a=>?_) (kT (by simp only[u];rfl) (fun K a=>?_) tD))
   ·
    go_simp;refine a _ _ ?_;clear a K
    try simp only[o]
    refine uy (rs:=[2,4]) (by kernel_rfl) (by simp) ?_;refine(kT (by simp only[u];rfl) (fun K a=>?_) (kT (by simp only[u];rfl) (fun K a=>?_) tD))
    ·
     rw[aq (by rfl)];refine Az 105 #[.int .i64 n] (by intro c h;cases h) (by simp[execOp,go_sem]) ?_;refine(dh.2 (y8 (n:Int) _)).st fun ak z=>?_;refine⟨_,rfl,?_⟩;rw[z];clear z;refine a _ _ ?_;clear a K
     try simp only[o]
     refine gV 4 (by kernel_rfl) (by simp only[u];rfl) fun K a=>?_;go_simp;refine a _ _ ?_;clear a K
     try simp only[o]
     refine gV 5 (by kernel_rfl) (by simp only[u];rfl) fun K a=>?_;rw[aq (by rfl)];refine Gx _ (.const (.int .i64 0)) (.tmp 13) 65 rfl W.1.size 3 Q (.int .i64 0) 1 underlying65 H R X .i64 .i64 n rfl rfl (by rw[aa];omega) (by unfold maxLen;omega) O ?_;intro p t A;have l:Below j j p:=(show Below j j j.drew from⟨rfl,rfl,rfl,av _,fun _ _=>rfl⟩).b A (av _) (fun k e=>by cases e);have an:=(s.c.Z l s.c.lt).num;have C:=aA l t;clear l t A;refine a _ _ ?_;clear a K
     try simp only[o]
     exact T p C
    ·
     go_simp;refine a _ _ ?_;clear a K
     try simp only[o]
     exact am trivial
   ·
    go_simp;refine a _ _ ?_;clear a K
    try simp only[o]
    refine uy (rs:=[1,5]) (by kernel_rfl) (by simp) ?_;refine(kT (by simp only[u];rfl) (fun K a=>?_) (kT (by simp only[u];rfl) (fun K a=>?_) tD))
    ·
     go_simp;refine a _ _ ?_;clear a K
     try simp only[o]
     exact am trivial
    ·
     rw[aq (by rfl)];refine Gx _ (.const (.int .i64 0)) (.tmp 13) 65 rfl W.1.size 3 Q (.int .i64 0) 1 underlying65 H R X .i64 .i64 n rfl rfl (by rw[aa];omega) (by unfold maxLen;omega) O ?_;intro p t A;have l:Below j j p:=(show Below j j j.drew from⟨rfl,rfl,rfl,av _,fun _ _=>rfl⟩).b A (av _) (fun k e=>by cases e);have an:=(s.c.Z l s.c.lt).num;have C:=aA l t;clear l t A;refine a _ _ ?_;clear a K
     try simp only[o]
     refine gV 1 (by kernel_rfl) (by simp only[u];rfl) fun K a=>?_;go_simp;refine a _ _ ?_;clear a K
     try simp only[o]
     refine gV 2 (by kernel_rfl) (by simp only[u];rfl) fun K a=>?_;rw[aq (by rfl)];refine Az 105 #[.int .i64 n] (by intro c h;cases h) (by simp[execOp,go_sem]) ?_;refine(dh.2 (y8 (n:Int) _)).st fun ak z=>?_;refine⟨_,rfl,?_⟩;rw[z];clear z;refine a _ _ ?_;clear a K
     try simp only[o]
     exact T p C
  intro _;refine uy (rs:=[2,5]) (by kernel_rfl) (by simp) ?_;refine(kT (by simp only[u];rfl) (fun K a=>?_) (kT (by simp only[u];rfl) (fun K a=>?_) tD))
  ·
   rw[aq (by rfl)];refine Az 105 #[.int .i64 n] (by intro c h;cases h) (by simp[execOp,go_sem]) ?_;refine(dh.2 (y8 (n:Int) _)).st fun ak z=>?_;refine⟨_,rfl,?_⟩;rw[z];clear z;refine a _ _ ?_;clear a K
   try simp only[o]
   refine gV 5 (by kernel_rfl) (by simp only[u];rfl) fun K a=>?_;rw[aq (by rfl)];refine Gx _ (.const (.int .i64 0)) (.tmp 13) 65 rfl W.1.size 3 Q (.int .i64 0) 1 underlying65 H R X .i64 .i64 n rfl rfl (by rw[aa];omega) (by unfold maxLen;omega) O ?_;intro p t A;have l:Below j j p:=(show Below j j j.drew from⟨rfl,rfl,rfl,av _,fun _ _=>rfl⟩).b A (av _) (fun k e=>by cases e);have an:=(s.c.Z l s.c.lt).num;have C:=aA l t;clear l t A;refine a _ _ ?_;clear a K
   try simp only[o]
   exact T p C
  ·
   rw[aq (by rfl)];refine Gx _ (.const (.int .i64 0)) (.tmp 13) 65 rfl W.1.size 3 Q (.int .i64 0) 1 underlying65 H R X .i64 .i64 n rfl rfl (by rw[aa];omega) (by unfold maxLen;omega) O ?_;intro p t A;have l:Below j j p:=(show Below j j j.drew from⟨rfl,rfl,rfl,av _,fun _ _=>rfl⟩).b A (av _) (fun k e=>by cases e);have:=(s.c.Z l s.c.lt).num;have C:=aA l t;clear l t A;refine a _ _ ?_;clear a K
   try simp only[o]
   refine gV 2 (by kernel_rfl) (by simp only[u];rfl) fun K a=>?_;rw[aq (by rfl)];refine Az 105 #[.int .i64 n] (by intro c h;cases h) (by simp[execOp,go_sem]) ?_;refine(dh.2 (y8 (n:Int) _)).st fun ak z=>?_;refine⟨_,rfl,?_⟩;rw[z];clear z;refine a _ _ ?_;clear a K
   try simp only[o]
   exact T p C
 intro p C;refine gV 7 (by kernel_rfl) (by simp only[u];rfl) fun K a=>?_;rw[aq (by rfl)];have l:=C.a;have t:=C.B;refine Az 219 #[.pointer (J.1.size:Nat),.int .u64 (Bv.U (Rl.below (n:Int))),.slice j 0 n,.func (.yield ab) #[] #[]] (by intro c h;cases h) (by simp[execOp,go_sem];try rfl) ?_;refine(r.h _ J.1.size al p j.1.size ae (by omega) (fun z=>by have:=s.E _ z;omega) (fun z=>by have:=s.E _ z;omega) (aO O l.size) (s.b.Z l s.b.lt) t (r.d _ _ _ _ s.a (.gz l))).m ?_;rintro e z ⟨b,rfl,j⟩;refine⟨_,rfl,?_⟩;refine a _ _ ?_;clear a K
 try simp only[o]
 refine DM (by kernel_rfl) ?_ _
 gi_wp2
 go_end0
 exact⟨⟨_,rfl⟩,j⟩
def WT(n)(f)(a:Rl.Ok n f)(pb)(w0)(b:aG w0 pb n f)(m:Nat):
 Rg.mH Fence.wide m prog 218 #[.pointer pb] xm (Rl.eL n f) (fun _ W=>bh W/\2<W.1.size) w0:=by
 cases h:(Rl.lL n f).isSome
 .exact XA n f a h pb w0 b m
 exact abX n f a h pb w0 b m
end
namespace Rl
def KQ{a b}{q:List Nat}(h:a≠b):(a::q).idxOf b=q.idxOf b+1:=by grind
def Sl(before):∀(t:List Nat),t.Nodup->(Good before t↔∀a∈t,∀c∈t,bit before a c=true->t.idxOf c<t.idxOf a)
 |[],_=>by simp[Good]
 |a::q,b=>by
  have:=Sl before q (yx.1 b).2;unfold Good
  grind
def Oh{n}{f}(g:Ok n f){t}(l:t.Nodup)(h:∀a,a∈t↔a<n):Good (dR n f) t↔∀a b,bit f a b=true->t.idxOf a<t.idxOf b:=by
 rw[Sl _ t l];constructor
 .intro i a b e;have j:=g.cz a b e;exact i b ((h b).2 j.2) a ((h a).2 j.1) (by rw[Bg g];exact e)
 intro i a _ c _ e;rw[Bg g]at e
 grind
def agt{f}{t:List Nat}(h:∀a b,bit f a b=true->t.idxOf a<t.idxOf b){a b}(p:Path f a b):t.idxOf a<t.idxOf b:=by
 induction p with
 |one c=>exact h _ _ c
 |step c _ e=>exact lZ (h _ _ c) e
def I9{n}{f}(h:Ok n f)(x):x∈eL n f↔x.Nodup/\(∀a,a∈x↔a<n)/\∀a b,bit f a b=true->x.idxOf a<x.idxOf b:=by
 have l:∀a,(below (n:Int)).getLsbD a=true↔a<n:=fun a=>by
  by_cases o:a<64
  .rw[qZ n a o,lD]
  constructor
  .grind
  have:=h.le;omega
 unfold eL;by_cases j:(lL n f).isSome=true
 .rw[aq j,KW _ _ _ _ _ (Bx.D4 _)];constructor
  .rintro⟨t,e,c,i,g⟩;have m:∀a,a∈t↔a<n:=fun a=>(i a).t (l a);rw[e,gG];exact⟨c,m,(Oh h c m).1 g⟩
  rintro⟨c,i,g⟩;exact⟨x,by simp,c,fun a=>(i a).t (l a).s,(Oh h c i).2 g⟩
 rw[O j];simp only[sV,false_iff];rintro⟨_,_,g⟩;apply j;rw[N0 h];intro a p;exact n9 _ (agt g p)
end Rl
namespace Rl
def Jn(x y:List Nat):Prop:=∃p a b q r,x=p++a::q/\y=p++b::r/\a<b
def Kv(b):∀(k:Nat)(left:BitVec 64)(l x:List Nat),x∈ext b k left l->∃t,x=l++t
 |0,left,l,x,h=>by simp[ext]at h;exact⟨[],by simp[h]⟩
 |k+1,left,l,x,h=>by
  unfold ext at h;split at h
  .simp_all
  have⟨a,_,c⟩:=mR.1 h;split at c
  .have⟨t,e⟩:=Kv b k _ _ x c
   grind
  grind
def S7(c):∀(k:Nat)(left:BitVec 64)(l:List Nat),(ext c k left l).Pairwise Jn
 |0,left,l=>by simp[ext]
 |k+1,left,l=>by
  unfold ext;split
  .simp
  rw[List.pairwise_flatMap];refine⟨fun a _=>?_,(Bs.Ar left).imp fun{a b} h x f y g=>?_⟩
  .split
   .exact S7 c k _ _
   simp
  split at f
  .split at g
   .have⟨t,e⟩:=Kv c k _ _ x f;have⟨u,e2⟩:=Kv c k _ _ y g;exact⟨l,a,b,t,u,by grind,by grind,h⟩
   grind
  grind
def YS{x y}(h:Jn x y):x≠y:=by
 obtain⟨p,a,b,q,r,rfl,rfl,c⟩:=h;intro e;simp_all
def ad4(n)(f):(eL n f).Pairwise Jn:=by
 unfold eL;split
 .exact S7 _ _ _ _
 simp
def aar(n)(f):(eL n f).Nodup:=(ad4 n f).imp YS
end Rl
section
variable{α:Type}
def dL:List Nat->List (List Nat)
 |[]=>[[]]
 |n::ns=>(List.range n).flatMap fun d=>(dL ns).map (d::·)
def vq:List Nat->List Nat->Option (List Nat)
 |n::ns,d::a=>match vq ns a with
  |some r=>some (d::r)
  |none=>if d+1<n then some ((d+1)::ns.map fun _=>0)else none
 |_,_=>none
def F2(f:Nat->List α)(m:Nat)(a:∀d,(f d)=m):∀n,((List.range n).flatMap f)=n*m
 |0=>by simp
 |n+1=>by rw[jh,oI,dc,F2 f m a n];simp[a,I7]
def flat_get(f:Nat->List α)(m:Nat)(a:∀d,(f d)=m):∀n d j,d<n->j<m->((List.range n).flatMap f)[d*m+j]? =(f d)[j]?
 |0,d,j,h,_=>absurd h (jD _)
 |n+1,d,j,h,b=>by
  rw[jh,oI,tm,F2 f m a n];by_cases d=n
  .grind
  rw[aq (by
   have:(d+1)*m<=n*m:=xq _ (by omega)
   grind)]
  exact flat_get f m a n d j (by omega) b
def OO{ns}(h:∀n∈ns,0<n):(dL ns)[0]? =(ns.map fun _=>0):=by
 induction ns with
 |nil=>rfl
 |cons n ns a=>
  have:=flat_get (fun d=>(dL ns).map (d::·)) (dL ns) (fun d=>cV _) n 0 0 (h n (by simp)) (by
   grind)
  unfold dL
  grind
def Nu{ns:List Nat}(h:∀n∈ns,0<n)(i:Nat)(a:List Nat)(b:(dL ns)[i]? =some a):vq ns a=(dL ns)[i+1]?:=by
 induction ns generalizing i a with
 |nil=>
  cases i with
  |zero=>simp[dL]at b;subst b;rfl
  |succ i=>simp[dL]at b
 |cons n ns o=>
  have p:=OO (ns:=ns) fun x q=>h x (kU _ q);have o:=o fun x q=>h x (kU _ q);have f:0<(dL ns).length:=by
   obtain e|e:=Cl (dL ns).length
   .rw[zM e]at p;cases p
   exact e
  have⟨m,g⟩:=eX (dL ns).length;rw[<-g]at f;have r:=flat_get (fun d=>(dL ns).map (d::·)) m (fun d=>by rw[g];exact cV _) n;have u:=F2 (fun d=>(dL ns).map (d::·)) m (fun d=>by rw[g];exact cV _) n;unfold dL at b⊢;have z:i<n*m:=by
   rw[<-u];obtain h|h:=qN i ((List.range n).flatMap fun d=>(dL ns).map (d::·)).length
   .exact h
   rw[od h]at b;cases b
  have l:=Nat.div_add_mod i m;have v:=Nat.mod_lt i f;have s:i/m<n:=(Nat.div_lt_iff_lt_mul f).2 z;have⟨d,w⟩:=eX (i/m);have⟨j,y⟩:=eX (i%m);rw[<-w,<-y]at l;rw[<-w]at s;rw[<-y]at v;rw[x7]at l;rw[<-l,r d j s v,dG]at b;rw[<-l];cases t:(dL ns)[j]? with
  |none=>rw[t]at b;cases b
  |some c=>
   rw[t]at b;obtain rfl:=aR b;have A:=o j c t;simp only[vq];rw[A];by_cases b:j+1<m
   .rw[mq,r d (j+1) s b,dG,aI (by rw[<-g];exact b)];rfl
   rw[od (by omega)];have e:d*m+j+1=(d+1)*m+0:=by rw[I7];omega
   simp only[];by_cases H:d+1<n
   .rw[aq H,e,r (d+1) 0 H f,dG,p];rfl
   rw[O H,od];rw[u,e];have:n<=d+1:=by omega
   exact aO (xq m this) (by omega)
def uM:∀{ns:List Nat}{a},a∈dL ns->a.length=ns/\∀(j d n:Nat),a[j]? =d->ns[j]? =n->d<n
 |[],a,h=>by simp[dL]at h;subst h;simp
 |n::ns,a,h=>by
  have⟨d,e,h⟩:=mR.1 h;obtain⟨b,c,rfl⟩:=bX.1 h;have⟨f,g⟩:=uM c
  grind
def Jk:∀(ns a:List Nat),a.length=ns->(∀(j d n:Nat),a[j]? =d->ns[j]? =n->d+1=n)->vq ns a=none
 |[],[],_,_=>rfl
 |n::ns,d::c,b,h=>by
  have:=Jk ns c (by grind) fun j x y e f=>h (j+1) x y (by grind) (by grind);have:=h 0 d n rfl rfl;unfold vq
  grind
 |[],_::_,b,_=>by grind
 |_::_,[],b,_=>by grind
def Uk:∀(ns a:List Nat)(k:Nat),a.length=ns->(∀(j d n:Nat),k<j->a[j]? =d->ns[j]? =n->d+1=n)->∀d n:Nat,a[k]? =d->ns[k]? =n->d+1<n->
 vq ns a=(a.take k++(d+1)::List.replicate (a-k-1) 0)
 |[],[],_,_,_,d,n,l,_,_=>by grind
 |n::ns,d::b,k,c,h,x,y,e,f,g=>by
  cases k with
  |zero=>
   have i:=Jk ns b (by grind) fun j x y e f=>h (j+1) x y (by omega) (by grind) (by grind);simp at e f;subst e f;unfold vq;rw[i];simp only[];rw[aq g];have:ns.map (fun _=>0)=List.replicate b 0:=by
    have c:b.length=ns:=by grind
    rw[c,List.map_const']
   grind
  |succ k=>
   have:=Uk ns b k (by grind) (fun j x y m e f=>h (j+1) x y (by omega) (by grind) (by grind)) x y (by grind) (by grind) g;unfold vq
   grind
 |[],_::_,_,c,_,_,_,_,_,_=>by grind
 |_::_,[],_,c,_,_,_,_,_,_=>by grind
def UR{ns}(h:0∈ns):dL ns=[]:=by
 induction ns with
 |nil=>cases h
 |cons n ns a=>
  unfold dL;obtain e|h:=fI.1 h
  .grind
  simp_all
end
section
open Go.Sort
abbrev T:Int->Value:=Value.int .u8
def JJ(x)(w):Calls prog 198 #[.int .u8 x] w fun e a=>e=false/\a=w:=by
 go_enter func198,ntmps198;go_wp2;go_ret;exact⟨by simp,rfl⟩
def fH(x y)(w):Calls prog 212 #[.int .u8 x,.int .u8 y] w fun e a=>e=(Sort.ltInt x y)/\a=w:=by
 go_enter func212,ntmps212
 go_wp2_with (go_at_call 198;refine(JJ _ _).m ?_;rintro e a ⟨rfl,rfl⟩)
 go_ret;exact⟨rfl,rfl⟩
def U2(g h A a b:Nat)(d:Array (Int))(w:World)(o:Holds T w g h d)(M:a<=b)(N:b<=d.size)(O:d.size<4611686018427387904):
 Calls prog 206 #[.slice (some ⟨g,h,none⟩) d.size A,.int .i64 a,.int .i64 b] w fun e C=>
  e= .returned (.tuple #[])/\∃n,C=putRow T (Sort.ahead w n) g h (Sort.insertionSort ltInt d a b):=by
 go_enter func206,ntmps206;go_wp2
 go_loopw [6] (fun c wr=>∃(i n:Nat)(l:Array (Int)),c= .int .i64 i/\a<i/\i<=b+1/\l.size=d.size/\wr=putRow T (Sort.ahead w n) g h l/\
  insOuter ltInt a b i l=insOuter ltInt a b (a+1) d) (fun c _=>b+1-(intOf c).toNat)
 case atStart=>exact⟨a+1,0,d,by go_num,by omega,by omega,rfl,(putRow_self _ _ _ _ _ o).s,rfl⟩
 obtain⟨i,n,l,rfl,P,Q,E,R,c⟩:=hrel;have u:=H c;clear c;go_wp2
 ·
  go_loopw [7] (fun p r=>∃(j m:Nat)(c:Array (Int)),p= .int .i64 j/\a<=j/\j<=i/\c.size=d.size/\r=putRow T (Sort.ahead w m) g h c/\
   insInner ltInt a j c=insInner ltInt a i l) (fun p _=>(intOf p).toNat)
  case atStart=>exact⟨i,n,l,rfl,by omega,av _,E,rfl,rfl⟩
  obtain⟨j,m,c,rfl,W,X,r,p,v⟩:=hrel;have F:i<b:=by assumption
  obtain⟨G,s⟩:∃G:Nat->Int,∀t,G t=c[t]!:=⟨fun t=>c[t]!,fun _=>rfl⟩
  have:∀t,t<d.size->wr.cell? ⟨g,h+t,none⟩=some (.int .u8 ((G t))):=fun t x=>by
   rw[p,s];exact cell?_putRow _ _ _ _ d c (holds_ahead _ _ _ _ _ _ o) r t (by omega)
  have:∀t,t<d.size->wr.frozen? ⟨g,h+t,none⟩=false:=fun t x=>by
   rw[p,frozen?_putRow];exact((holds_ahead _ _ m _ _ _ o) t x).2
  have y:=H p;have l:=H s;have z:=H v;clear p s v o;have out:(j<=a\/ltInt c[j]! c[j-1]! =false)->∀q,∃o I p,Value.int .i64 ((i:Int)+1)= .int .i64 (o:Nat)/\a<o/\o<=b+1/\p.size=d.size/\
   wr.drewN q=putRow T (Sort.ahead w I) g h p/\insOuter ltInt a b o p=insOuter ltInt a b (a+1) d:=fun J q=>
   ⟨i+1,m+q,c,by go_num,by omega,by omega,r,by rw[y.y];exact ui _ _ _ _ _ _ _,
     by rw[<-u.y,insOuter_go _ _ _ _ _ F,<-z.y,insInner_stop _ _ _ _ J]⟩
  have v:Hid _:=out;clear out;go_wp2;by_cases L:a<j
  .go_quiet (first|(go_at_call 212;refine fV (fH _ _ _)));go_wp2
   ·
    have s:ltInt (G j) (G (j-1))=true:=by assumption
    go_region
    all_goals go_wp2
    go_roundw
    case rel=>
     refine⟨j-1,m+(nq+1),swp c j (j-1),by congr 1;omega,by omega,by omega,by rw[size_swp];exact r,?_,?_⟩
     .rw[y.y,l.y,l.y];exact Ag _ w m (nq+1) g h c j (j-1) (by omega) (by omega)
     rw[<-z.y,insInner_go ltInt a j c L (by rw[<-l.y,<-l.y];exact s)]
    simp[intOf];omega
   ·
    have s:ltInt (G j) (G (j-1))=false:=by assumption
    go_roundw
    case rel=>exact v.y (Or.inr (by rw[<-l.y,<-l.y];exact s)) nq
    simp[intOf];omega
  go_quiet (first|(go_at_call 212;refine fV (fH _ _ _)));go_wp2
  go_roundw
  case rel=>exact v.y (Or.inl (by omega)) nq
  simp[intOf];omega
 ·
  have c:¬i<b:=by assumption
  go_end0
  exact⟨rfl,n,by unfold Sort.insertionSort;rw[<-u.y,insOuter_stop _ _ _ _ _ c]⟩
def XC(p q al a b:Nat)(d:Array (Int))(w:World)(c:Holds T w p q d)(au:a<b)(aw:b<=d.size)(ax:d.size<4611686018427387904):
 Calls prog 211 #[.slice (some ⟨p,q,none⟩) d.size al,.int .i64 a,.int .i64 b] w fun e am=>
  e=(Sort.partialInsertionSort ltInt d a b).2/\∃n,am=putRow T (Sort.ahead w n) p q (Sort.partialInsertionSort ltInt d a b).1:=by
 have L:=H c;have an:Hid (w=putRow T (Sort.ahead w 0) p q d):=(putRow_self _ _ _ _ _ c).s;clear c;go_enter func211,ntmps211;go_wp2
 go_loopw [7,8] (fun c vs wr=>∃(i s n:Nat)(g:Array (Int)),c= .int .i64 i/\vs= .int .i64 s/\s<=5/\a<i/\i<=b/\g.size=d.size/\wr=putRow T (Sort.ahead w n) p q g/\
  partialIns ltInt a b (5-s) i g=partialIns ltInt a b 5 (a+1) d) (fun _ vs _=>5-(intOf vs).toNat)
 case atStart=>exact⟨a+1,0,0,d,by go_num,rfl,by omega,by omega,by omega,rfl,an.y,rfl⟩
 obtain⟨i,s,n,g,rfl,rfl,ay,az,ao,ag,aA,l⟩:=hrel;have E:=H l;clear l;go_wp2
 ·
  have F:s<5:=by omega
  go_loopw [7] (fun c N=>∃(k m:Nat),c= .int .i64 k/\i<=k/\k<=b/\N=putRow T (Sort.ahead w m) p q g/\scanSorted ltInt g b k=scanSorted ltInt g b i) (fun c _=>b-(intOf c).toNat)
  case atStart=>exact⟨i,n,rfl,av _,ao,rfl,rfl⟩
  obtain⟨k,m,rfl,aB,aC,P,c⟩:=hrel;obtain⟨G,u⟩:∃G:Nat->Int,∀t,G t=g[t]!:=⟨fun t=>g[t]!,fun _=>rfl⟩
  have aa:∀t,t<d.size->wr.cell? ⟨p,q+t,none⟩=some (.int .u8 ((G t))):=fun t z=>by
   rw[P,u];exact cell?_putRow _ _ _ _ d g (holds_ahead _ _ _ _ _ _ L.y) ag t (by omega)
  have ab:∀t,t<d.size->wr.frozen? ⟨p,q+t,none⟩=false:=fun t z=>by
   rw[P,frozen?_putRow];exact((holds_ahead _ _ m _ _ _ L.y) t z).2
  have r:=H P;have l:=H u;have ad:=H c;clear P u c;go_wp2;by_cases ap:k<b
  .go_quiet (first|(go_at_call 212;refine fV (fH _ _ _)));go_wp2
   all_goals first
    |(at_end
      have v:ltInt (G k) (G (k-1))=false:=by
       have h:(!ltInt (G k) (G (k-1)))=true:=by assumption
       simpa using h
      go_roundw
      case rel=>exact⟨k+1,m+nq,by go_num,by omega,by omega,by rw[r.y];exact ui _ _ _ _ _ _ _,by rw[<-ad.y,scanSorted_go ltInt g b k ap (by rw[<-l.y,<-l.y];exact v)]⟩
      case measure=>simp[intOf];omega)
    |(have v:ltInt (G k) (G (k-1))=true:=by
       have h:(!ltInt (G k) (G (k-1)))=false:=by assumption
       simpa using h
      have M:Hid (scanSorted ltInt g b i=k):=by
       show scanSorted ltInt g b i=k;rw[<-ad.y,scanSorted_stop ltInt g b k (Or.inr (by rw[<-l.y,<-l.y];exact v))]
      first
       |(at_ret
         have W:Sort.partialInsertionSort ltInt d a b=(g,false):=by
          unfold Sort.partialInsertionSort;rw[<-E.y,pi_short ltInt a b s i g F (by rw[M.y];omega) (by omega)]
         rw[W];go_ret;exact⟨rfl,m+nq,by rw[r.y];exact ui _ _ _ _ _ _ _⟩)
       |(at_region 11
         have:¬b-a<50:=by omega
         go_region;have ar:((wr.drewN (nq+1)).setCell ⟨p,q+k,none⟩ (.int .u8 ((G (k-1))))).setCell ⟨p,q+(k-1),none⟩ (.int .u8 ((G k)))=putRow T (Sort.ahead w (m+(nq+1))) p q (swp g k (k-1)):=by
          rw[r.y,l.y,l.y];exact Ag _ w m (nq+1) p q g k (k-1) (by omega) (by omega)
         have ae:(swp g k (k-1)).size=d.size:=by rw[size_swp];exact ag
         go_wp2
         all_goals first
          |(at_loop
            have ah:k-a>=2:=by omega
            go_loopw [9] (fun y N=>∃(j X:Nat)(o:Array (Int)),y= .int .i64 j/\j<=k-1/\o.size=d.size/\N=putRow T (Sort.ahead w X) p q o/\
             shiftDown ltInt j o=shiftDown ltInt (k-1) (swp g k (k-1))) (fun y _=>(intOf y).toNat)
            case atStart=>exact⟨k-1,_,(swp g k (k-1)),by congr 1;omega,av _,ae,rfl,rfl⟩
            case round=>
             obtain⟨j,X,o,rfl,aD,R,P,ai⟩:=hrel;obtain⟨G,u⟩:∃G:Nat->Int,∀t,G t=o[t]!:=⟨fun t=>o[t]!,fun _=>rfl⟩
             have aa:∀t,t<d.size->wr.cell? ⟨p,q+t,none⟩=some (.int .u8 ((G t))):=fun t z=>by
              rw[P,u];exact cell?_putRow _ _ _ _ d o (holds_ahead _ _ _ _ _ _ L.y) R t (by omega)
             have ab:∀t,t<d.size->wr.frozen? ⟨p,q+t,none⟩=false:=fun t z=>by
              rw[P,frozen?_putRow];exact((holds_ahead _ _ X _ _ _ L.y) t z).2
             have r:=H P;have l:=H u;have af:=H ai;clear P u ai ar;go_wp2
             all_goals first
              |(at_region 16
                go_quiet (first|(go_at_call 212;refine fV (fH _ _ _)));go_wp2
                all_goals first
                 |(at_region 17
                   have v:ltInt (G j) (G (j-1))=true:=by
                    have h:(!ltInt (G j) (G (j-1)))=false:=by assumption
                    simpa using h
                   go_region
                   all_goals go_wp2
                   go_roundw
                   case rel=>
                    refine⟨j-1,X+(nq+1),swp o j (j-1),by congr 1;omega,by omega,by rw[size_swp];exact R,?_,?_⟩
                    .rw[r.y,l.y,l.y];exact Ag _ w X (nq+1) p q o j (j-1) (by omega) (by omega)
                    rw[<-af.y,shiftDown_go ltInt j o (by omega) (by rw[<-l.y,<-l.y];exact v)]
                   case measure=>simp[intOf];omega)
                 |(
                  have v:ltInt (G j) (G (j-1))=false:=by
                   have h:(!ltInt (G j) (G (j-1)))=true:=by assumption
                   simpa using h
                  have I:Hid (fixDown ltInt a k (swp g k (k-1))=o):=by
                   show fixDown ltInt a k (swp g k (k-1))=o;unfold fixDown;rw[aq ah,<-af.y,shiftDown_stop ltInt j o (Or.inr (by rw[<-l.y,<-l.y];exact v))]
                  first
                   |(at_end
                     go_roundw
                     case rel=>
                      refine⟨k,s+1,_,o,rfl,by go_num,by omega,by omega,by omega,R,(by(rw[r.y];exact ui _ _ _ _ _ _ _)),?_⟩;rw[<-E.y,pi_go ltInt a b s i k g F M.y (by omega) (by omega),I.y,show fixUp ltInt b k o=o from by unfold fixUp;rw[O (by omega)]]
                     case measure=>simp[intOf];omega)
                   |(at_loop
                     go_loopw [10] (fun y N=>∃(j x:Nat)(c:Array (Int)),y= .int .i64 j/\k+1<=j/\j<=b/\c.size=d.size/\N=putRow T (Sort.ahead w x) p q c/\
                      shiftUp ltInt b j c=shiftUp ltInt b (k+1) o) (fun y _=>b-(intOf y).toNat)
                     case atStart=>exact⟨k+1,_,o,by go_num,av _,by omega,R,(by(rw[r.y];exact ui _ _ _ _ _ _ _)),rfl⟩
                     case round=>
                      obtain⟨j,x,c,rfl,aj,ak,A,C,Q⟩:=hrel;obtain⟨G,u⟩:∃G:Nat->Int,∀t,G t=c[t]!:=⟨fun t=>c[t]!,fun _=>rfl⟩
                      have aa:∀t,t<d.size->wr.cell? ⟨p,q+t,none⟩=some (.int .u8 ((G t))):=fun t z=>by
                       rw[C,u];exact cell?_putRow _ _ _ _ d c (holds_ahead _ _ _ _ _ _ L.y) A t (by omega)
                      have ab:∀t,t<d.size->wr.frozen? ⟨p,q+t,none⟩=false:=fun t z=>by
                       rw[C,frozen?_putRow];exact((holds_ahead _ _ x _ _ _ L.y) t z).2
                      have r:=H C;have l:=H u;have J:=H Q;clear C u Q;go_wp2
                      all_goals first
                       |(at_region 22
                         go_quiet (first|(go_at_call 212;refine fV (fH _ _ _)));go_wp2
                         all_goals first
                          |(at_region 23
                            have v:ltInt (G j) (G (j-1))=true:=by
                             have h:(!ltInt (G j) (G (j-1)))=false:=by assumption
                             simpa using h
                            go_region
                            all_goals go_wp2
                            go_roundw
                            case rel=>
                             refine⟨j+1,x+(nq+1),swp c j (j-1),by go_num,by omega,by omega,by rw[size_swp];exact A,?_,?_⟩
                             .rw[r.y,l.y,l.y];exact Ag _ w x (nq+1) p q c j (j-1) (by omega) (by omega)
                             rw[<-J.y,shiftUp_go ltInt b j c (by omega) (by rw[<-l.y,<-l.y];exact v)]
                            case measure=>simp[intOf];omega)
                          |(at_end
                            have v:ltInt (G j) (G (j-1))=false:=by
                             have h:(!ltInt (G j) (G (j-1)))=true:=by assumption
                             simpa using h
                            go_roundw
                            case rel=>
                             refine⟨k,s+1,_,c,rfl,by go_num,by omega,by omega,by omega,A,(by(rw[r.y];exact ui _ _ _ _ _ _ _)),?_⟩;rw[<-E.y,pi_go ltInt a b s i k g F M.y (by omega) (by omega),I.y,show fixUp ltInt b k o=c from by unfold fixUp;rw[aq (by omega),<-J.y,Aw ltInt b j c (Or.inr (by rw[<-l.y,<-l.y];exact v))]]
                            case measure=>simp[intOf];omega))
                       |(at_end
                         go_roundw
                         case rel=>
                          refine⟨k,s+1,_,c,rfl,by go_num,by omega,by omega,by omega,A,(by exact r.y),?_⟩;rw[<-E.y,pi_go ltInt a b s i k g F M.y (by omega) (by omega),I.y,show fixUp ltInt b k o=c from by unfold fixUp;rw[aq (by omega),<-J.y,Aw ltInt b j c (Or.inl (by omega))]]
                         case measure=>simp[intOf];omega))))
              |(
               have I:Hid (fixDown ltInt a k (swp g k (k-1))=o):=by
                show fixDown ltInt a k (swp g k (k-1))=o;unfold fixDown;rw[aq ah,<-af.y,shiftDown_stop ltInt j o (Or.inl (by omega))]
               first
                |(at_end
                  go_roundw
                  case rel=>
                   refine⟨k,s+1,_,o,rfl,by go_num,by omega,by omega,by omega,R,(by exact r.y),?_⟩;rw[<-E.y,pi_go ltInt a b s i k g F M.y (by omega) (by omega),I.y,show fixUp ltInt b k o=o from by unfold fixUp;rw[O (by omega)]]
                  case measure=>simp[intOf];omega)
                |(at_loop
                  go_loopw [10] (fun y N=>∃(j x:Nat)(c:Array (Int)),y= .int .i64 j/\k+1<=j/\j<=b/\c.size=d.size/\N=putRow T (Sort.ahead w x) p q c/\
                   shiftUp ltInt b j c=shiftUp ltInt b (k+1) o) (fun y _=>b-(intOf y).toNat)
                  case atStart=>exact⟨k+1,_,o,by go_num,av _,by omega,R,(by exact r.y),rfl⟩
                  case round=>
                   obtain⟨j,x,c,rfl,aj,ak,A,C,Q⟩:=hrel;obtain⟨G,u⟩:∃G:Nat->Int,∀t,G t=c[t]!:=⟨fun t=>c[t]!,fun _=>rfl⟩
                   have aa:∀t,t<d.size->wr.cell? ⟨p,q+t,none⟩=some (.int .u8 ((G t))):=fun t z=>by
                    rw[C,u];exact cell?_putRow _ _ _ _ d c (holds_ahead _ _ _ _ _ _ L.y) A t (by omega)
                   have ab:∀t,t<d.size->wr.frozen? ⟨p,q+t,none⟩=false:=fun t z=>by
                    rw[C,frozen?_putRow];exact((holds_ahead _ _ x _ _ _ L.y) t z).2
                   have r:=H C;have l:=H u;have J:=H Q;clear C u Q;go_wp2
                   all_goals first
                    |(at_region 22
                      go_quiet (first|(go_at_call 212;refine fV (fH _ _ _)));go_wp2
                      all_goals first
                       |(at_region 23
                         have v:ltInt (G j) (G (j-1))=true:=by
                          have h:(!ltInt (G j) (G (j-1)))=false:=by assumption
                          simpa using h
                         go_region
                         all_goals go_wp2
                         go_roundw
                         case rel=>
                          refine⟨j+1,x+(nq+1),swp c j (j-1),by go_num,by omega,by omega,by rw[size_swp];exact A,?_,?_⟩
                          .rw[r.y,l.y,l.y];exact Ag _ w x (nq+1) p q c j (j-1) (by omega) (by omega)
                          rw[<-J.y,shiftUp_go ltInt b j c (by omega) (by rw[<-l.y,<-l.y];exact v)]
                         case measure=>simp[intOf];omega)
                       |(at_end
                         have v:ltInt (G j) (G (j-1))=false:=by
                          have h:(!ltInt (G j) (G (j-1)))=true:=by assumption
                          simpa using h
                         go_roundw
                         case rel=>
                          refine⟨k,s+1,_,c,rfl,by go_num,by omega,by omega,by omega,A,(by(rw[r.y];exact ui _ _ _ _ _ _ _)),?_⟩;rw[<-E.y,pi_go ltInt a b s i k g F M.y (by omega) (by omega),I.y,show fixUp ltInt b k o=c from by unfold fixUp;rw[aq (by omega),<-J.y,Aw ltInt b j c (Or.inr (by rw[<-l.y,<-l.y];exact v))]]
                         case measure=>simp[intOf];omega))
                    |(at_end
                      go_roundw
                      case rel=>
                       refine⟨k,s+1,_,c,rfl,by go_num,by omega,by omega,by omega,A,(by exact r.y),?_⟩;rw[<-E.y,pi_go ltInt a b s i k g F M.y (by omega) (by omega),I.y,show fixUp ltInt b k o=c from by unfold fixUp;rw[aq (by omega),<-J.y,Aw ltInt b j c (Or.inl (by omega))]]
                      case measure=>simp[intOf];omega))))
          |(
           have I:Hid (fixDown ltInt a k (swp g k (k-1))=(swp g k (k-1))):=by
            show fixDown ltInt a k (swp g k (k-1))=(swp g k (k-1))
            unfold fixDown;rw[O (by omega)]
           first
            |(at_end
              go_roundw
              case rel=>
               refine⟨k,s+1,_,(swp g k (k-1)),rfl,by go_num,by omega,by omega,by omega,ae,(by fail),?_⟩;rw[<-E.y,pi_go ltInt a b s i k g F M.y (by omega) (by omega),I.y,show fixUp ltInt b k (swp g k (k-1))=(swp g k (k-1))from by unfold fixUp;rw[O (by omega)]]
              case measure=>simp[intOf];omega)
            |(at_loop
              go_loopw [10] (fun y N=>∃(j x:Nat)(c:Array (Int)),y= .int .i64 j/\k+1<=j/\j<=b/\c.size=d.size/\N=putRow T (Sort.ahead w x) p q c/\
               shiftUp ltInt b j c=shiftUp ltInt b (k+1) (swp g k (k-1))) (fun y _=>b-(intOf y).toNat)
              case atStart=>exact⟨k+1,_,(swp g k (k-1)),by go_num,av _,by omega,ae,rfl,rfl⟩
              case round=>
               obtain⟨j,x,c,rfl,aj,ak,A,C,Q⟩:=hrel;obtain⟨G,u⟩:∃G:Nat->Int,∀t,G t=c[t]!:=⟨fun t=>c[t]!,fun _=>rfl⟩
               have:∀t,t<d.size->wr.cell? ⟨p,q+t,none⟩=some (.int .u8 ((G t))):=fun t z=>by
                rw[C,u];exact cell?_putRow _ _ _ _ d c (holds_ahead _ _ _ _ _ _ L.y) A t (by omega)
               have:∀t,t<d.size->wr.frozen? ⟨p,q+t,none⟩=false:=fun t z=>by
                rw[C,frozen?_putRow];exact((holds_ahead _ _ x _ _ _ L.y) t z).2
               have r:=H C;have l:=H u;have J:=H Q;clear C u Q;go_wp2
               all_goals first
                |(at_region 22
                  go_quiet (first|(go_at_call 212;refine fV (fH _ _ _)));go_wp2
                  all_goals first
                   |(at_region 23
                     have v:ltInt (G j) (G (j-1))=true:=by
                      have h:(!ltInt (G j) (G (j-1)))=false:=by assumption
                      simpa using h
                     go_region
                     all_goals go_wp2
                     go_roundw
                     case rel=>
                      refine⟨j+1,x+(nq+1),swp c j (j-1),by go_num,by omega,by omega,by rw[size_swp];exact A,?_,?_⟩
                      .rw[r.y,l.y,l.y];exact Ag _ w x (nq+1) p q c j (j-1) (by omega) (by omega)
                      rw[<-J.y,shiftUp_go ltInt b j c (by omega) (by rw[<-l.y,<-l.y];exact v)]
                     case measure=>simp[intOf];omega)
                   |(at_end
                     have v:ltInt (G j) (G (j-1))=false:=by
                      have h:(!ltInt (G j) (G (j-1)))=true:=by assumption
                      simpa using h
                     go_roundw
                     case rel=>
                      refine⟨k,s+1,_,c,rfl,by go_num,by omega,by omega,by omega,A,(by(rw[r.y];exact ui _ _ _ _ _ _ _)),?_⟩;rw[<-E.y,pi_go ltInt a b s i k g F M.y (by omega) (by omega),I.y,show fixUp ltInt b k (swp g k (k-1))=c from by unfold fixUp;rw[aq (by omega),<-J.y,Aw ltInt b j c (Or.inr (by rw[<-l.y,<-l.y];exact v))]]
                     case measure=>simp[intOf];omega))
                |(at_end
                  go_roundw
                  case rel=>
                   refine⟨k,s+1,_,c,rfl,by go_num,by omega,by omega,by omega,A,(by exact r.y),?_⟩;rw[<-E.y,pi_go ltInt a b s i k g F M.y (by omega) (by omega),I.y,show fixUp ltInt b k (swp g k (k-1))=c from by unfold fixUp;rw[aq (by omega),<-J.y,Aw ltInt b j c (Or.inl (by omega))]]
                  case measure=>simp[intOf];omega)))))
  ·
   go_quiet (first|(go_at_call 212;refine fV (fH _ _ _)));go_wp2;obtain rfl:k=b:=by omega
   have W:Sort.partialInsertionSort ltInt d a k=(g,true):=by
    unfold Sort.partialInsertionSort;rw[<-E.y,pi_true ltInt a k s i g F (by rw[<-ad.y,scanSorted_stop ltInt g k k (Or.inl (by omega))])]
   rw[W];go_ret;exact⟨rfl,m+nq,by rw[r.y];exact ui _ _ _ _ _ _ _⟩
 ·
  obtain rfl:s=5:=by omega
  have W:Sort.partialInsertionSort ltInt d a b=(g,false):=by
   unfold Sort.partialInsertionSort;rw[<-E.y,pi_end]
  rw[W];go_ret;exact⟨rfl,n,rfl⟩
end
end Go.Proofs.YtilhngjecfdgpaaGreatDoor
