/- layer 3's law: orders by numbers: steps of a region that draws: a literal, an append of a slice that may be nil, an append to a full slice. -/
import Derived.Test.YtknjdfgmejobfaaDoorLg
import Derived.Test.YtknjdfgmejobfaaDoorSn
import Derived.Test.YtknjdfgmejobfaaDoorTf
import Derived.Laws.OwnMore
namespace Go.Bo

section
variable {P : Program} {ops : Array Oper} {I : World → Prop} {n0 : Option Nat}
/-- a slice of one item made -/
theorem walk_lit {Q : Act → (World → Prop) → Prop} {a : Act} {rest : List Oper} {o : Oper} (t e : TypeId) (base : Nat) (u : Value) (x : Operand) (ho : o.op = .buildSlice t 1 #[(0, x)]) (hw : Region.wanted o (yielded ops a.tmps) = true)
    (hrun : ∀ W, (execOp a.eval o).run P W = .ok (.value (.slice (some ⟨W.heap.size, 0, none⟩) 1 1)) (W.alloc (.cells #[u] e)))
    (hal : ∀ W z, I W → I (W.alloc z)) (hb : ∀ W, I W → base ≤ W.heap.size)
    (h : ∀ g, walk P ops I n0 Q rest (fun W => W.ownsRow base e 1 (.slice (some ⟨g, 0, none⟩) 1 1) 1 [u]) (a.put o.dst (.slice (some ⟨g, 0, none⟩) 1 1))) : walk P ops I n0 Q (o :: rest) (fun _ => True) a :=
  walk_open (fun v R' => ∃ g, v = .slice (some ⟨g, 0, none⟩) 1 1 ∧ R' = fun W => W.ownsRow base e 1 (.slice (some ⟨g, 0, none⟩) 1 1) 1 [u]) (by unfold isOpen; rw [ho]) hw
    (fun v R' ⟨g, _, hr⟩ W z hW => by rw [hr] at hW ⊢; exact hW.alloc z) ⟨_, _, 0, rfl, rfl⟩
    (fun W hW _ => by
      rw [hrun W]
      refine ⟨_, ⟨W.heap.size, rfl, rfl⟩, hal W _ hW, World.ownsRow_lit W #[u] 1 (hb W hW) (by unfold maxLen; omega) rfl, fun n b _ _ hlt => ?_⟩
      first | exact heap_alloc_old W _ b hlt | exact heap_alloc_old W _ hlt)
    (fun v R' ⟨g, hv, hr⟩ => by rw [hv, hr]; exact h g)
/-- an append, to a row that the region itself has made, of a slice that may be nil -/
theorem walk_append_src {Q : Act → (World → Prop) → Prop} {a : Act} {rest : List Oper} {o : Oper} (s x : Operand) (t : TypeId) (ho : o.op = .call { callee := .builtin .append, args := #[s, x], argTypes := #[t, t] }) (hw : Region.wanted o (yielded ops a.tmps) = true)
    (base : Nat) (e : TypeId) (i : TypeInfo) (z : Value) (size bytes : Nat) (ht : P.underlying t = some (.slice e)) (hi : P.info? e = some i) (hz : i.zero = some z)
    (hsize : i.size = size) (hby : i.bytes = bytes) (hzs : z.cells.size = size) (hsz : 0 < size)
    (v : Value) (n : Nat) (xs : List Value) (hs : a.eval s = v)
    (A : Option Addr) (m c : Nat) (news : List Value) (hx : a.eval x = .slice A m c) (hnil : A = none → m = 0 ∧ c = 0) (hl : news.length = m * size) (hnews : ∀ W, I W → ∀ ad, A = some ad → ∀ j u, news[j]? = some u → W.cell? (ad.add j) = some u) (h1 : ∀ u ∈ news, u.oneCell' = true)
    (h63 : n + m ≤ maxLen) (hbytes : (n + m) * bytes ≤ 140737488355328) (hn : 0 < n) (hb : ∀ W, I W → base ≤ W.heap.size)
    (hI : ∀ W W', I W → W.ownsRow base e size v n xs → W.grownBy W' v.ownBlock → I W')
    (h : ∀ g cap, walk P ops I none Q rest (fun W => W.ownsRow base e size (.slice (some ⟨g, 0, none⟩) (n + m) cap) (n + m) (xs ++ news)) (a.put o.dst (.slice (some ⟨g, 0, none⟩) (n + m) cap))) :
    walk P ops I none Q (o :: rest) (fun W => W.ownsRow base e size v n xs) a :=
  walk_open (fun v' R' => ∃ g cap, v' = .slice (some ⟨g, 0, none⟩) (n + m) cap ∧ R' = fun W => W.ownsRow base e size (.slice (some ⟨g, 0, none⟩) (n + m) cap) (n + m) (xs ++ news)) (by unfold isOpen; rw [ho]) hw
    (fun v' R' ⟨g, cap, _, hr⟩ W z hW => by rw [hr] at hW ⊢; exact hW.alloc z) ⟨_, _, 0, 0, rfl, rfl⟩
    (fun W hW hR => by
      cases A with
      | some ad =>
        obtain ⟨v', W', hr, h2, h3, _⟩ := run_append_own (P := P) W base t o.type e i z size bytes ht hi hz hsize hby hzs hsz v n xs hR ad m c news hl (hnews W hW ad rfl) h1 h63 hbytes (hb W hW)
        obtain ⟨g, cap, rfl, _, hlt⟩ := h2.form (by omega)
        rw [exec_append s x t ho hs hx hr]
        exact ⟨_, ⟨g, cap, rfl, rfl⟩, hI W W' hW hR h3, h2, Kept.none⟩
      | none =>
        obtain ⟨rfl, rfl⟩ := hnil rfl
        have hn0 : news = [] := List.eq_nil_of_length_eq_zero (by simpa using hl)
        subst hn0
        have hr := run_append_owned_none (P := P) (w := W) base t o.type e i size ht hi v n xs hR
        obtain ⟨g, cap, rfl, _, hlt⟩ := hR.form (by omega)
        rw [exec_append s x t ho hs hx hr]
        exact ⟨_, ⟨g, cap, rfl, rfl⟩, hW, by simpa using hR, Kept.none⟩)
    (fun v' R' ⟨g, cap, hv, hr⟩ => by rw [hv, hr]; exact h g cap)
/-- an append, to a full slice that may be nil, of a row that the region itself has made -/
theorem walk_append_full {Q : Act → (World → Prop) → Prop} {a : Act} {rest : List Oper} {o : Oper} (s x : Operand) (t : TypeId) (ho : o.op = .call { callee := .builtin .append, args := #[s, x], argTypes := #[t, t] }) (hw : Region.wanted o (yielded ops a.tmps) = true)
    (base : Nat) (e : TypeId) (i : TypeInfo) (z : Value) (size bytes : Nat) (ht : P.underlying t = some (.slice e)) (hi : P.info? e = some i) (hz : i.zero = some z)
    (hsize : i.size = size) (hby : i.bytes = bytes) (hzs : z.cells.size = size) (hsz : 0 < size)
    (A : Option Addr) (n : Nat) (olds : List Value) (hs : a.eval s = .slice A n n) (hnil : A = none → n = 0) (hlo : olds.length = n * size) (holds : ∀ W, I W → ∀ b, A = some b → ∀ j u, olds[j]? = some u → W.cell? (b.add j) = some u)
    (g0 m c : Nat) (news : List Value) (hx : a.eval x = .slice (some ⟨g0, 0, none⟩) m c) (h1 : ∀ u ∈ news, u.oneCell' = true)
    (h63 : n + m ≤ maxLen) (hbytes : (n + m) * bytes ≤ 140737488355328) (hm : 0 < m) (hb : ∀ W, I W → base ≤ W.heap.size)
    (hI : ∀ W W', I W → W.grownBy W' none → I W')
    (h : ∀ g cap, walk P ops I none Q rest (fun W => W.ownsRow base e size (.slice (some ⟨g, 0, none⟩) (n + m) cap) (n + m) (olds ++ news)) (a.put o.dst (.slice (some ⟨g, 0, none⟩) (n + m) cap))) :
    walk P ops I none Q (o :: rest) (fun W => W.ownsRow base e size (.slice (some ⟨g0, 0, none⟩) m c) m news) a :=
  walk_open (fun v' R' => ∃ g cap, v' = .slice (some ⟨g, 0, none⟩) (n + m) cap ∧ R' = fun W => W.ownsRow base e size (.slice (some ⟨g, 0, none⟩) (n + m) cap) (n + m) (olds ++ news)) (by unfold isOpen; rw [ho]) hw
    (fun v' R' ⟨g, cap, _, hr⟩ W z hW => by rw [hr] at hW ⊢; exact hW.alloc z) ⟨_, _, 0, 0, rfl, rfl⟩
    (fun W hW hR => by
      have hc := hR.cells (g := g0) rfl
      cases A with
      | some ad =>
        obtain ⟨v', W', hr, h2, h3⟩ := run_append_arg_grows (P := P) W t o.type e i z size bytes ht hi hz hsize hby hzs hsz ad n n olds hlo (holds W hW ad rfl) ⟨g0, 0, none⟩ m c news hR.1 hc (by omega) h63 hbytes
        obtain ⟨g, cap, rfl, _, hlt⟩ := h2.form (by omega)
        rw [exec_append s x t ho hs hx hr]
        exact ⟨_, ⟨g, cap, rfl, rfl⟩, hI W W' hW h3, ownsRow_mono h2 (hb W hW), Kept.none⟩
      | none =>
        obtain rfl := hnil rfl
        obtain rfl : olds = [] := List.eq_nil_of_length_eq_zero (by simpa using hlo)
        obtain ⟨v', W', hr, h2, h3, _⟩ := run_append_own (P := P) W W.heap.size t o.type e i z size bytes ht hi hz hsize hby hzs hsz (.slice none 0 0) 0 [] (World.ownsRow_nil W _ e size) ⟨g0, 0, none⟩ m c news hR.1 hc h1 h63 hbytes (Nat.le_refl _)
        obtain ⟨g, cap, rfl, _, hlt⟩ := h2.form (by omega)
        rw [exec_append s x t ho hs hx hr]
        exact ⟨_, ⟨g, cap, rfl, rfl⟩, hI W W' hW h3, ownsRow_mono h2 (hb W hW), Kept.none⟩)
    (fun v' R' ⟨g, cap, hv, hr⟩ => by rw [hv, hr]; exact h g cap)
end
end Go.Bo
namespace Go.Proofs.YtknjdfgmejobfaaDoor
open Go.RowKit Go.Shelf
/-- where a row of the call's own lies -/
theorem row_form {w : World} {base n : Nat} {v : Value} {L : List Nat} (h : w.ownsRow base 3 1 v n (nums L)) : ∃ A cap, v = .slice A n cap ∧ n ≤ cap ∧ cap ≤ maxLen ∧ (A = none → n = 0 ∧ cap = 0) ∧ (∀ ad, A = some ad → ∃ g, ad = ⟨g, 0, none⟩ ∧ base ≤ g) ∧ L.length = n ∧ IntsAt w A (ints L) := by
  obtain ⟨A, cap, e1, e2, e3, h4⟩ := row_nums h
  subst e1
  rcases h.2 with ⟨h1, h5⟩ | ⟨g, cp, cur, h1, h5, h6, h7, h8, _⟩
  · injection h1 with i1 i2 i3
    subst i1 i2 i3
    exact ⟨none, 0, rfl, Nat.le_refl _, e3, fun _ => ⟨rfl, rfl⟩, (fun _ e => by cases e), e2, h4⟩
  · injection h1 with i1 i2 i3
    subst i1 i3
    exact ⟨_, _, rfl, h7, e3, (fun e => by cases e), (fun ad e => by cases e; exact ⟨g, rfl, h5⟩), e2, h4⟩
theorem aheadB_at : ∀ (k : Nat) {x y : List Nat} {a b : Nat}, (∀ j, j < k → x[j]? = y[j]?) → x[k]? = some a → y[k]? = some b → a ≠ b → aheadB x y = decide (a < b)
  | 0, x, y, a, b, _, hx, hy, hne => by
    cases x with
    | nil => cases hx
    | cons c x =>
      cases y with
      | nil => cases hy
      | cons d y =>
        simp at hx hy
        subst hx hy
        show (if c = d then aheadB x y else decide (c < d)) = _
        rw [if_neg hne]
  | k + 1, x, y, a, b, h, hx, hy, hne => by
    cases x with
    | nil => cases hx
    | cons c x =>
      cases y with
      | nil => cases hy
      | cons d y =>
        have h0 := h 0 (by omega)
        simp at h0
        subst h0
        show (if c = c then aheadB x y else decide (c < c)) = _
        rw [if_pos rfl]
        exact aheadB_at k (fun j hj => by have := h (j + 1) (by omega); simpa using this) (by simpa using hx) (by simpa using hy) hne
theorem aheadB_same : ∀ x : List Nat, aheadB x x = false
  | [] => rfl
  | a :: x => by
    show (if a = a then aheadB x x else decide (a < a)) = false
    rw [if_pos rfl, aheadB_same x]
end Go.Proofs.YtknjdfgmejobfaaDoor
