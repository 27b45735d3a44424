/- reference of layer 3: more, the walk. -/
import Derived.Test.YtknjdfgmejobfaaDoorWg
import Derived.Laws.AppendOwnNone
import Derived.Deep.CutBlock
import Derived.Deep.DeepCutAuto
namespace Go.Proofs.YtknjdfgmejobfaaDoor
open Go.RowKit Go.Shelf

def MoreOut (n : Nat) (f : Rl.Rows) (m : Nat) (B : List Nat) (O : List (List Nat)) (most base : Nat) (v : Value) (w : World) (e : Ending) (w' : World) : Prop :=
  ∃ v', e = .returned v' ∧ ListsV base (moreF most O (allE n f m B)) v' w' ∧ w.grownBy w' v.ownBlock ∧ ∀ g, v'.ownBlock = some g → v.ownBlock = some g ∨ w.heap.size ≤ g
/-- append of ints that lie somewhere, nil or not -/
theorem wpList_append_src {P : Program} {w : World} {ops : Array Oper} {rest : List Oper} {o : Oper} {a : Act} {Q : Exit → Act → World → Prop} (hgd : o.guard = none) (s x : Operand) (t : TypeId)
    (ho : o.op = .call { callee := .builtin .append, args := #[s, x], argTypes := #[t, t] })
    (base : Nat) (e : TypeId) (i : TypeInfo) (z : Value) (ht : P.underlying t = some (.slice e)) (hi : P.info? e = some i) (hz : i.zero = some z)
    (hsize : i.size = 1) (hby : i.bytes = 8) (hzs : z.cells.size = 1)
    (v : Value) (n : Nat) (xs : List Value) (hs : a.eval s = v) (hown : w.ownsRow base e 1 v n xs)
    (A : Option Addr) (m c : Nat) (news : List Value) (hx : a.eval x = .slice A m c) (hnil : A = none → m = 0 ∧ c = 0) (hl : news.length = m) (hA : ∀ ad, A = some ad → ∀ j u, news[j]? = some u → w.cell? (ad.add j) = some u) (h1 : ∀ u ∈ news, u.oneCell' = true)
    (h63 : n + m ≤ maxLen) (hbytes : (n + m) * 8 ≤ 140737488355328) (hbase : base ≤ w.heap.size)
    (h : ∀ v' w', w'.ownsRow base e 1 v' (n + m) (xs ++ news) → w.grownBy w' v.ownBlock → (v' = .slice none 0 0 ↔ v = .slice none 0 0 ∧ m = 0) → wpList P ops Q rest (a.put o.dst v') w') : wpList P ops Q (o :: rest) a w := by
  cases A with
  | none =>
    obtain ⟨rfl, rfl⟩ := hnil rfl
    obtain rfl : news = [] := List.eq_nil_of_length_eq_zero hl
    refine wpList_append_own_none hgd s x t ho base e i 1 ht hi v n xs hs hown hx (h v w (by simpa using hown) ⟨rfl, rfl, rfl, Nat.le_refl _, fun _ _ _ => rfl⟩ (by simp))
  | some ad =>
    exact wpList_append_own w hgd s x t ho base e i z 1 8 ht hi hz hsize hby hzs (by decide) v n xs hs hown ad m c news hx (by rw [hl, Nat.mul_one]) (hA ad rfl) h1 h63 hbytes hbase h
/-- the cells of a list that lies somewhere -/
theorem all_cells {w : World} {A : Option Addr} {B : List Nat} (h : IntsAt w A (ints B)) : ∀ ad, A = some ad → ∀ j u, (nums B)[j]? = some u → w.cell? (ad.add j) = some u := by
  intro ad had j u hu
  obtain ⟨hj, hx⟩ := List.getElem?_eq_some_iff.1 hu
  have hj2 : j < B.length := by unfold nums at hj; rw [List.length_map] at hj; exact hj
  obtain ⟨b, off, e, _, hc⟩ := h (by rw [ints_len]; omega)
  rw [had] at e
  injection e with e
  have hadd : (⟨b, off, none⟩ : Addr).add j = ⟨b, off + j, none⟩ := by unfold Addr.add; split <;> simp_all
  have e2 : (nums B)[j]? = some (Value.int .i64 ((B[j] : Nat) : Int)) := by unfold nums; rw [List.getElem?_map, List.getElem?_eq_getElem hj2]; rfl
  rw [hu] at e2
  injection e2 with e2
  rw [e, hadd, hc j (by rw [ints_len]; exact hj2), e2, ints_get (List.getElem?_eq_getElem hj2)]
theorem nums_cell (B : List Nat) : ∀ u ∈ nums B, u.oneCell' = true := by
  intro u hu; unfold nums at hu; obtain ⟨x, _, rfl⟩ := List.mem_map.1 hu; rfl
theorem nums_length (B : List Nat) : (nums B).length = B.length := by unfold nums; rw [List.length_map]

theorem made_form {W : World} {base n : Nat} {e : TypeId} {u : Value} {xs : List Value} {g0 : Addr} (h : W.ownsRow base e 1 u (0 + n) xs) (hnn : u = .slice none 0 0 ↔ (Value.slice (some g0) 0 0 = .slice none 0 0 ∧ n = 0)) : ∃ g c, u = .slice (some ⟨g, 0, none⟩) n c ∧ base ≤ g := by
  rcases h.2 with ⟨h1, _⟩ | ⟨g, c, cur, h1, h2, _⟩
  · have h3 := (hnn.1 h1).1
    injection h3 with h3
    cases h3
  · exact ⟨g, c, by rw [h1, Nat.zero_add], h2⟩
attribute [-go_sem] run_eql_struct run_neq_struct
set_option maxRecDepth 100000 in
set_option maxHeartbeats 4000000 in
theorem more_done (n : Nat) (f : Rl.Rows) (B : List Nat) (O : List (List Nat)) (most base : Nat) (A : Option Addr) (cb : Nat) (v : Value) (w : World) (hB : B.length = n) (hn : n ≤ 48) (hO : O.length ≤ most) (hm : most ≤ 10000)
    (hv : ListsV base O v w) (hA : IntsAt w A (ints B)) (hnil : A = none → n = 0 ∧ cb = 0) (hbase : base ≤ w.heap.size) :
    Calls Tryd.prog 93 #[.agg (relC n f), .slice A n cb, v, .int .i64 most] w (MoreOut n f 0 B O most base v w) := by
  obtain ⟨i0, hi, hz0, hz1, hz2⟩ := info_parts infoOneInt3
  obtain ⟨i1, hj, hy0, hy1, hy2⟩ := info_parts infoInts
  have I0 := Lib.hid (And.intro hi (And.intro hz0 (And.intro hz1 hz2)))
  have I1 := Lib.hid (And.intro hj (And.intro hy0 (And.intro hy1 hy2)))
  clear hi hz0 hz1 hz2 hj hy0 hy1 hy2
  have H0 := Lib.hid ((Held.nil w).box n f)
  have Z := Lib.hid (And.intro hB (And.intro hv (And.intro hA (And.intro hnil hbase))))
  clear hB hv hA hnil hbase
  have cN := (H0.out.at 0 rfl).num
  have d0 : ((n : Int) == (n : Int)) = true := by simp
  obtain ⟨W0, hW0⟩ : ∃ W, W = w.alloc (.cells (relC n f) 26) := ⟨_, rfl⟩
  have b0 : Below w.heap.size w W0 := by rw [hW0]; exact (Below.refl _ w).alloc (Nat.le_refl _) _
  have s0 : W0.heap.size = w.heap.size + 1 := by rw [hW0]; simp
  go_enter Tryd.func93, Tryd.ntmps93
  go_upto_region 2 with fail
  rw [← hW0]
  have hAW : IntsAt (W0.alloc (.cells #[] 3)) A (ints B) := Z.out.2.2.1.below (b0.alloc (by omega) _) (Nat.le_refl _)
  have hvb : ∀ W, Below w.heap.size w W → ∃ vs, W.ownsRow base 35 1 v O.length vs ∧ ∀ (i : Nat) (x : List Nat), O[i]? = some x → ∃ u, vs[i]? = some u ∧ ∃ g c, u = .slice (some ⟨g, 0, none⟩) x.length c ∧ base ≤ g ∧ W.ownsRow 0 3 1 u x.length (nums x) := fun W hW => Z.out.2.1.below hW
  have HW := Lib.hid (And.intro hAW (And.intro hvb (And.intro b0 s0)))
  clear hAW hvb b0 s0 hW0 cN
  go_wp2_with (first | (at_builtin; refine wpList_append_src rfl (.tmp 18) (.tmp 19) 35 rfl w.heap.size 3 i0 (.int .i64 0) Tryd.underlying35 I0.out.1 I0.out.2.1 I0.out.2.2.1 I0.out.2.2.2 rfl _ 0 [] rfl (World.ownsRow_made W0 #[] 0 (by have := HW.out.2.2.2; omega) (Nat.zero_le _) rfl) A n cb (nums B) rfl Z.out.2.2.2.1 (by rw [nums_length]; exact Z.out.1) (all_cells HW.out.1) (nums_cell B) (by unfold maxLen; omega) (by omega) (by have := HW.out.2.2.2; simp; omega) ?_; intro u W2 hu2 hgr2 hnn2; obtain ⟨g, c, rfl, hgb⟩ := made_form hu2 hnn2; have HU := Lib.hid (And.intro hu2 (And.intro hgb (show Below w.heap.size w W2 from (HW.out.2.2.1.alloc (by have := HW.out.2.2.2; omega) _).grown hgr2 (by have := HW.out.2.2.2; simp; omega) (fun q e => by have e2 : some W0.heap.size = some q := e; injection e2 with e2; have := HW.out.2.2.2; omega)))); clear hu2 hgr2 hnn2 hgb) | (at_builtin; obtain ⟨vs, hrow, hel⟩ := HW.out.2.1 (W2.alloc (.cells #[.slice (some ⟨g, 0, none⟩) n c] 35)) (HU.out.2.2.alloc HU.out.2.2.size _); refine wpList_append_blk _ rfl (.tmp 17) (.tmp 21) 52 rfl base 35 i1 (.slice none 0 0) 1 24 Tryd.underlying52 I1.out.1 I1.out.2.1 I1.out.2.2.1 I1.out.2.2.2 rfl (by decide) v O.length vs rfl hrow ⟨W2.heap.size, 0, none⟩ 1 1 [.slice (some ⟨g, 0, none⟩) n c] rfl rfl (cell_one_new _ _ _) (by simp [Value.oneCell']) (by omega) (by unfold maxLen; omega) (by omega) (by have := HU.out.2.2.size; have := Z.out.2.2.2.2; simp; omega) ?_; intro v' W3 hrow3 hgr3 hown3))
  go_ret
  have hbel := HU.out.2.2
  have hsz : w.heap.size ≤ W2.heap.size := hbel.size
  have hx : (W2.alloc (.cells #[.slice (some ⟨g, 0, none⟩) n c] 35)).ownsRow 0 3 1 (.slice (some ⟨g, 0, none⟩) B.length c) B.length (nums B) := by
    have h := HU.out.1
    rw [Nat.zero_add, List.nil_append] at h
    rw [Z.out.1]
    exact Bo.ownsRow_mono (h.alloc _) (Nat.zero_le _)
  refine ⟨v', rfl, ?_, ?_, fun q e => ?_⟩
  · rw [show allE n f 0 B = [B] from rfl, more_one most O B hO]
    have hu : (Value.slice (some ⟨g, 0, none⟩) n c) = .slice (some ⟨g, 0, none⟩) B.length c := by rw [Z.out.1]
    rw [hu] at hrow3
    exact ListsV.snoc hrow hel rfl (Nat.le_trans Z.out.2.2.2.2 HU.out.2.1) hx hrow3 hgr3
  · refine ⟨hgr3.os.trans hbel.os, hgr3.tape.trans hbel.tape, hgr3.output.trans hbel.output, by have := hgr3.size; simp at this; omega, fun k hk hne => ?_⟩
    exact (hgr3.block k (by simp; omega) hne).trans ((hbel.alloc hsz _).block k hk)
  · rcases hown3 q e with h | h
    · exact .inl h
    · exact .inr (by simp at h; omega)
end Go.Proofs.YtknjdfgmejobfaaDoor
