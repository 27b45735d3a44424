/- append in a region that draws: an append of a slice to itself, the old slice kept; the steps of the walk. -/
import Derived.Test.YtknjdfgmejobfaaDoorBo
import Derived.Deep.AppendLies
import Derived.Deep.DeepAppendRoom
import Derived.Laws.AppendOwnNone
import Derived.ArgAppend
namespace Go.Bo

section
variable {P : Program}
theorem exec_append {o : Oper} {a : Act} {W W' : World} {v xv v' : Value} (s x : Operand) (t : TypeId) (ho : o.op = .call { callee := .builtin .append, args := #[s, x], argTypes := #[t, t] }) (hs : a.eval s = v) (hx : a.eval x = xv)
    (hr : (Builtin.append_ #[t, t] o.type #[v, xv]).run P W = .ok v' W') : (execOp a.eval o).run P W = .ok (.value v') W' := by
  unfold execOp
  simp only [ho, resolve, invoke, builtin, Sem.run_bind, Sem.run_pure, Result.andThen_ok, List.map_toArray, List.map_cons, List.map_nil, hs, hx, hr]
theorem ownsRow_mono {w : World} {b b' : Nat} {e : TypeId} {size n : Nat} {v : Value} {xs : List Value} (h : w.ownsRow b e size v n xs) (hb : b' ≤ b) : w.ownsRow b' e size v n xs := by
  refine ⟨h.1, ?_⟩
  rcases h.2 with h1 | ⟨g, cap, cur, h1, h2, h3⟩
  · exact .inl h1
  · exact .inr ⟨g, cap, cur, h1, Nat.le_trans hb h2, h3⟩
theorem ownsRow_front {w : World} {b : Nat} {e : TypeId} {size n m g cap : Nat} {xs ys : List Value} (h : w.ownsRow b e size (.slice (some ⟨g, 0, none⟩) (n + m) cap) (n + m) (xs ++ ys)) (hx : xs.length = n * size) : w.ownsRow b e size (.slice (some ⟨g, 0, none⟩) n cap) n xs := by
  refine ⟨hx, ?_⟩
  rcases h.2 with ⟨h1, _⟩ | ⟨g', cap', cur, h1, h2, h3, h4, h5, h6, h7⟩
  · cases h1
  · injection h1 with e1 e2 e3
    injection e1 with e1
    injection e1 with e1
    subst e1 e3
    refine .inr ⟨g, cap, cur, rfl, h2, h3, by omega, h5, h6, ?_⟩
    have : (cur.toList.take ((n + m) * size)).take (n * size) = xs := by rw [h7, ← hx]; exact List.take_left
    rw [List.take_take] at this
    rw [← this, Nat.min_eq_left (Nat.mul_le_mul_right _ (by omega))]
theorem grownBy_wide {w w' : World} {r : Option Nat} (h : w.grownBy w' none) : w.grownBy w' r := ⟨h.os, h.tape, h.output, h.size, fun k hk _ => h.block k hk (by simp)⟩
/-- a slice appended to itself: the new value, and the old one as it was -/
theorem run_append_self (w : World) (t ty : TypeId) (base : Nat) (e : TypeId) (i : TypeInfo) (z : Value) (size bytes : Nat) (ht : P.underlying t = some (.slice e)) (hi : P.info? e = some i) (hz : i.zero = some z)
    (hsize : i.size = size) (hby : i.bytes = bytes) (hzs : z.cells.size = size) (hsz : 0 < size)
    (v : Value) (n : Nat) (xs : List Value) (hown : w.ownsRow base e size v n xs) (h1 : ∀ u ∈ xs, u.oneCell' = true)
    (h63 : n + n ≤ maxLen) (hbytes : (n + n) * bytes ≤ 140737488355328) (hbase : base ≤ w.heap.size) :
    ∃ v' w', (Builtin.append_ #[t, t] ty #[v, v]).run P w = .ok v' w' ∧ w'.ownsRow base e size v' (n + n) (xs ++ xs) ∧ w'.ownsRow base e size v n xs ∧ w.grownBy w' v.ownBlock := by
  rcases hown.2 with ⟨rfl, rfl⟩ | ⟨g, cap, cur, rfl, hb, hg, hnc, _⟩
  · have hxs : xs = [] := List.eq_nil_of_length_eq_zero (by have := hown.1; simpa using this)
    subst hxs
    exact ⟨.slice none 0 0, w, by simp [Builtin.append_, run_underlying ht, sizeOf, typeInfo, hi, Builtin.firstCells, storeCells, Builtin.lenOf], hown, hown, ⟨rfl, rfl, rfl, Nat.le_refl _, fun _ _ _ => rfl⟩⟩
  · have hc := hown.cells (g := g) rfl
    by_cases hroom : n + n ≤ cap
    · obtain ⟨w', h2, h3, h4⟩ := run_append_own_spare (P := P) w base t ty e i size ht hi hsize g n cap xs hown ⟨g, 0, none⟩ n cap xs hown.1 hc h1 hroom
      exact ⟨_, w', h2, h3, ownsRow_front h3 hown.1, h4⟩
    · obtain ⟨v', w', h2, h3, h4⟩ := run_append_arg_grows (P := P) w t ty e i z size bytes ht hi hz hsize hby hzs hsz ⟨g, 0, none⟩ n cap xs hown.1 hc ⟨g, 0, none⟩ n cap xs hown.1 hc (by omega) h63 hbytes
      exact ⟨v', w', h2, ownsRow_mono h3 hbase, hown.kept h4 (.inr (by simp [Value.ownBlock])), grownBy_wide h4⟩
end

section
variable {P : Program} {ops : Array Oper} {I : World → Prop} {n0 : Option Nat}
/-- an empty slice made -/
theorem walk_make0 {Q : Act → (World → Prop) → Prop} {a : Act} {rest : List Oper} {o : Oper} (t e : TypeId) (base size : Nat) (ho : o.op = .buildSlice t 0 #[]) (hw : Region.wanted o (yielded ops a.tmps) = true) 
    (hrun : ∀ W, (execOp a.eval o).run P W = .ok (.value (.slice (some ⟨W.heap.size, 0, none⟩) 0 0)) (W.alloc (.cells #[] e)))
    (hal : ∀ W z, I W → I (W.alloc z)) (hb : ∀ W, I W → base ≤ W.heap.size)
    (h : ∀ g, walk P ops I n0 Q rest (fun W => W.ownsRow base e size (.slice (some ⟨g, 0, none⟩) 0 0) 0 []) (a.put o.dst (.slice (some ⟨g, 0, none⟩) 0 0))) : walk P ops I n0 Q (o :: rest) (fun _ => True) a :=
  walk_open (fun v R' => ∃ g, v = .slice (some ⟨g, 0, none⟩) 0 0 ∧ R' = fun W => W.ownsRow base e size (.slice (some ⟨g, 0, none⟩) 0 0) 0 []) (by unfold isOpen; rw [ho]) hw
    (fun v R' ⟨g, _, hr⟩ W z hW => by rw [hr] at hW ⊢; exact hW.alloc z) ⟨_, _, 0, rfl, rfl⟩
    (fun W hW _ => by
      rw [hrun W]
      refine ⟨_, ⟨W.heap.size, rfl, rfl⟩, hal W _ hW, World.ownsRow_made W #[] 0 (hb W hW) (Nat.zero_le _) (by simp), fun n b _ _ hlt => ?_⟩
      exact heap_alloc_old W _ b hlt)
    (fun v R' ⟨g, hv, hr⟩ => by rw [hv, hr]; exact h g)
/-- an append to a row that the region itself has made -/
theorem walk_append {Q : Act → (World → Prop) → Prop} {a : Act} {rest : List Oper} {o : Oper} (s x : Operand) (t : TypeId) (ho : o.op = .call { callee := .builtin .append, args := #[s, x], argTypes := #[t, t] }) (hw : Region.wanted o (yielded ops a.tmps) = true)
    (base : Nat) (e : TypeId) (i : TypeInfo) (z : Value) (size bytes : Nat) (ht : P.underlying t = some (.slice e)) (hi : P.info? e = some i) (hz : i.zero = some z)
    (hsize : i.size = size) (hby : i.bytes = bytes) (hzs : z.cells.size = size) (hsz : 0 < size)
    (v : Value) (n : Nat) (xs : List Value) (hs : a.eval s = v)
    (ad : Addr) (m c : Nat) (news : List Value) (hx : a.eval x = .slice (some ad) m c) (hl : news.length = m * size) (hnews : ∀ W, I W → ∀ j u, news[j]? = some u → W.cell? (ad.add j) = some u) (h1 : ∀ u ∈ news, u.oneCell' = true)
    (h63 : n + m ≤ maxLen) (hbytes : (n + m) * bytes ≤ 140737488355328) (hn : 0 < n + m) (hb : ∀ W, I W → base ≤ W.heap.size)
    (hI : ∀ W W', I W → W.ownsRow base e size v n xs → W.grownBy W' v.ownBlock → I W')
    (h : ∀ g cap, walk P ops I none Q rest (fun W => W.ownsRow base e size (.slice (some ⟨g, 0, none⟩) (n + m) cap) (n + m) (xs ++ news)) (a.put o.dst (.slice (some ⟨g, 0, none⟩) (n + m) cap))) :
    walk P ops I none Q (o :: rest) (fun W => W.ownsRow base e size v n xs) a :=
  walk_open (fun v' R' => ∃ g cap, v' = .slice (some ⟨g, 0, none⟩) (n + m) cap ∧ R' = fun W => W.ownsRow base e size (.slice (some ⟨g, 0, none⟩) (n + m) cap) (n + m) (xs ++ news)) (by unfold isOpen; rw [ho]) hw
    (fun v' R' ⟨g, cap, _, hr⟩ W z hW => by rw [hr] at hW ⊢; exact hW.alloc z) ⟨_, _, 0, 0, rfl, rfl⟩
    (fun W hW hR => by
      obtain ⟨v', W', hr, h2, h3, _⟩ := run_append_own (P := P) W base t o.type e i z size bytes ht hi hz hsize hby hzs hsz v n xs hR ad m c news hl (hnews W hW) h1 h63 hbytes (hb W hW)
      obtain ⟨g, cap, rfl, _, hlt⟩ := h2.form (by omega)
      rw [exec_append s x t ho hs hx hr]
      exact ⟨_, ⟨g, cap, rfl, rfl⟩, hI W W' hW hR h3, h2, Kept.none⟩)
    (fun v' R' ⟨g, cap, hv, hr⟩ => by rw [hv, hr]; exact h g cap)
/-- a slice of ours appended to itself, within a region that makes a variable behind it -/
theorem walk_append_self {Q : Act → (World → Prop) → Prop} {a : Act} {rest : List Oper} {o : Oper} {m0 : Nat} (s x : Operand) (t : TypeId) (ho : o.op = .call { callee := .builtin .append, args := #[s, x], argTypes := #[t, t] }) (hw : Region.wanted o (yielded ops a.tmps) = true)
    (base : Nat) (e : TypeId) (i : TypeInfo) (z : Value) (size bytes : Nat) (ht : P.underlying t = some (.slice e)) (hi : P.info? e = some i) (hz : i.zero = some z)
    (hsize : i.size = size) (hby : i.bytes = bytes) (hzs : z.cells.size = size) (hsz : 0 < size)
    (v : Value) (n : Nat) (xs : List Value) (hs : a.eval s = v) (hx : a.eval x = v) (h1 : ∀ u ∈ xs, u.oneCell' = true)
    (h63 : n + n ≤ maxLen) (hbytes : (n + n) * bytes ≤ 140737488355328) (hb : ∀ W, I W → base ≤ W.heap.size) (hrow : ∀ W, I W → W.ownsRow base e size v n xs) (hold : ∀ g, v.ownBlock = some g → g < m0)
    (hI : ∀ W W', I W → W.grownBy W' v.ownBlock → W'.ownsRow base e size v n xs → I W')
    (h : ∀ v', (∃ A cap, v' = .slice A (n + n) cap) → walk P ops I (some m0) Q rest (fun W => W.ownsRow base e size v' (n + n) (xs ++ xs)) (a.put o.dst v')) :
    walk P ops I (some m0) Q (o :: rest) (fun _ => True) a :=
  walk_open (fun v' R' => (∃ A cap, v' = .slice A (n + n) cap) ∧ R' = fun W => W.ownsRow base e size v' (n + n) (xs ++ xs)) (by unfold isOpen; rw [ho]) hw
    (fun v' R' ⟨_, hr⟩ W z hW => by rw [hr] at hW ⊢; exact hW.alloc z) ⟨_, _, ⟨none, 0, rfl⟩, rfl⟩
    (fun W hW _ => by
      obtain ⟨v', W', hr, h2, h3, h4⟩ := run_append_self (P := P) W t o.type base e i z size bytes ht hi hz hsize hby hzs hsz v n xs (hrow W hW) h1 h63 hbytes (hb W hW)
      rw [exec_append s x t ho hs hx hr]
      have hf : ∃ A cap, v' = .slice A (n + n) cap := by
        rcases h2.2 with ⟨h5, h6⟩ | ⟨g, cap, _, h5, _⟩
        · exact ⟨none, 0, by rw [h5, h6]⟩
        · exact ⟨_, cap, h5⟩
      refine ⟨_, ⟨hf, rfl⟩, hI W W' hW h4 h3, h2, fun n' b hn' hb' hlt => ?_⟩
      injection hn' with hn'
      refine h4.block b hlt (fun e => ?_)
      have := hold b e.symm
      omega)
    (fun v' R' ⟨hf, hr⟩ => by rw [hr]; exact h v' hf)
end
end Go.Bo
