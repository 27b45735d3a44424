/- a row of a held relation is set; answers on relations that are not valid. -/
import Derived.Test.YtknjdfgmejobfaaDoorNy
import Derived.Test.YtknjdfgmejobfaaDoorBm
namespace Go.Proofs.YtknjdfgmejobfaaDoor
open Go.RowKit Go.Shelf

theorem Held.setRow {w W : World} {L : List (Nat × Int × Rl.Rows)} (h : Held w L W) (i : Nat) {b : Nat} {n : Int} {f : Rl.Rows} (hi : L[i]? = some (b, n, f)) (a : Nat) (s : BitVec 64) : Held w (L.set i (b, n, upd f a s)) (W.setCell ⟨b, 1 + a, none⟩ (.int .u64 (Bv.U s))) :=
  h.put i hi ((h.at i hi).set a s) ⟨rfl, rfl, rfl, by simp, fun k _ hk => Below.heap_setCell _ _ _ _ (fun e => hk (by rw [e]))⟩
theorem walk_load_rel {ops : Array Oper} {w0 : World} {Q : Act → Prop} {a : Act} {rest : List Oper} {o : Oper} (hc : Bm.isCall o = false) (hw : Region.wanted o (yielded ops a.tmps) = true) (x : Operand) (hop : o.op = .load 26 x)
    (b : Nat) (n : Int) (f : Rl.Rows) (hx : a.eval x = .pointer (some ⟨b, 0, none⟩)) (hR : RelAt w0 b n f) (h : Bm.walk Tryd.prog ops w0 Q rest (a.put o.dst (.agg (relC n f)))) : Bm.walk Tryd.prog ops w0 Q (o :: rest) a :=
  Bm.walk_step hc hw (fun W hW => by
    unfold execOp
    simp only [hop, hx, Instr.loadAt, Instr.sureAddr, Sem.run_bind, Sem.run_pure, Result.andThen_ok, run_loadVar_row (P := Tryd.prog) _ b 26 26 (relC n f) (0, 0) _ (hR.below hW hR.lt) uRel rfl (sRelC n f)]) h
/-- the zero relation -/
theorem walk_build0 {ops : Array Oper} {w0 : World} {Q : Act → Prop} {a : Act} {rest : List Oper} {dst : Option Tmp} {ty : TypeId} {pos : String} {after : Array Edge} {guard : Option (Nat × Bool)} (hw : Region.wanted { dst, op := .build 26 #[], type := ty, pos, after, guard } (yielded ops a.tmps) = true)
    (h : Bm.walk Tryd.prog ops w0 Q rest (a.put dst (.agg (relC 0 zeroR)))) : Bm.walk Tryd.prog ops w0 Q ({ dst, op := .build 26 #[], type := ty, pos, after, guard } :: rest) a :=
  Bm.walk_step rfl hw (fun W _ => by
    have hb := build_zero W
    simp [execOp, hb]) h
end Go.Proofs.YtknjdfgmejobfaaDoor
