/- package order: places. -/
import Derived.Test.YtknjdfgmejobfaaDoorOf
namespace Go.Proofs.YtknjdfgmejobfaaDoor
open Go.RowKit Go.Shelf

/-! ### an array of 48 integers -/
def arrC (f : Nat → Int) : Array Value := ((List.range 48).map fun i => Value.int .i64 (f i)).toArray
theorem arrC_size (f : Nat → Int) : (arrC f).size = 48 := by simp [arrC]
theorem arrC_get (f : Nat → Int) (i : Nat) (hi : i < 48) : (arrC f)[i]? = some (.int .i64 (f i)) := by simp [arrC, hi]
theorem arrC_one (f : Nat → Int) : (arrC f).all (·.oneCell') = true := by
  rw [Array.all_eq_true_iff_forall_mem]
  intro v hv
  simp only [arrC, List.mem_toArray, List.mem_map] at hv
  obtain ⟨i, _, rfl⟩ := hv
  rfl
def updA (f : Nat → Int) (a : Nat) (x : Int) : Nat → Int := fun i => if i = a then x else f i
theorem arrC_set (f : Nat → Int) (a : Nat) (x : Int) : (arrC f).setIfInBounds a (.int .i64 x) = arrC (updA f a x) := by
  apply Array.ext_getElem?
  intro i
  rw [Array.getElem?_setIfInBounds]
  by_cases h : a = i
  · subst h
    rw [if_pos rfl]
    by_cases ha : a < 48
    · rw [if_pos (by rw [arrC_size]; omega), arrC_get _ _ ha]; unfold updA; rw [if_pos rfl]
    · rw [if_neg (by rw [arrC_size]; omega), Array.getElem?_eq_none (by rw [arrC_size]; omega)]
  · rw [if_neg h]
    by_cases hi : i < 48
    · rw [arrC_get _ _ hi, arrC_get _ _ hi]; unfold updA; rw [if_neg (fun e => h e.symm)]
    · rw [Array.getElem?_eq_none (by rw [arrC_size]; omega), Array.getElem?_eq_none (by rw [arrC_size]; omega)]
def zeroI : Nat → Int := fun _ => 0
def ArrAt (w : World) (b : Nat) (f : Nat → Int) : Prop := w.heap[b]? = some (.cells (arrC f) 100 (0, 0))
theorem ArrAt.lt {w : World} {b : Nat} {f : Nat → Int} (h : ArrAt w b f) : b < w.heap.size := (Array.getElem?_eq_some_iff.1 h).1
theorem ArrAt.cell {w : World} {b : Nat} {f : Nat → Int} (h : ArrAt w b f) (i : Nat) (hi : i < 48) : w.cell? ⟨b, i, none⟩ = some (.int .i64 (f i)) := by
  rw [cell_of_row w b i _ _ _ h, arrC_get _ _ hi]
theorem ArrAt.free {w : World} {b : Nat} {f : Nat → Int} (h : ArrAt w b f) (i : Nat) : w.frozen? ⟨b, i, none⟩ = false := frozen_of_row w b i _ _ h
theorem ArrAt.new (w : World) (f : Nat → Int) : ArrAt (w.alloc (.cells (arrC f) 100)) w.heap.size f := World.alloc_heap_new w _
theorem ArrAt.alloc {w : World} {b : Nat} {f : Nat → Int} (h : ArrAt w b f) (o : Obj) : ArrAt (w.alloc o) b f := (Below.heap_alloc _ _ _ h.lt).trans h
theorem ArrAt.below {k : Nat} {w w' : World} {b : Nat} {f : Nat → Int} (h : ArrAt w b f) (hb : Below k w w') (hk : b < k) : ArrAt w' b f := (hb.block b hk).trans h
theorem ArrAt.kept {w w' : World} {row : Option Nat} {b : Nat} {f : Nat → Int} (h : ArrAt w b f) (hg : w.grownBy w' row) (hne : some b ≠ row) : ArrAt w' b f := (hg.block b h.lt hne).trans h
theorem ArrAt.set {w : World} {b : Nat} {f : Nat → Int} (h : ArrAt w b f) (a : Nat) (x : Int) : ArrAt (w.setCell ⟨b, a, none⟩ (.int .i64 x)) b (updA f a x) := by
  have := Rf.set_cells (i := a) (.int .i64 x) h
  unfold ArrAt
  rw [this, arrC_set]
theorem ArrAt.other {w : World} {b : Nat} {f : Nat → Int} (h : ArrAt w b f) (p : Addr) (v : Value) (hne : b ≠ p.block) : ArrAt (w.setCell p v) b f := (Below.heap_setCell _ _ _ _ hne).trans h
theorem uArrI : Tryd.prog.underlying 100 = some (.array 48 3) := by kernel_rfl
theorem sArrI (f : Nat → Int) : (Tryd.prog.info? 100).map (·.size) = some (arrC f).size := by
  rw [arrC_size]; kernel_rfl
theorem zero_arr (w : World) : (zeroValue 100).run Tryd.prog w = .ok (.agg (arrC zeroI)) w := by kernel_rfl
theorem wpList_store_arr {ops : Array Oper} {rest : List Oper} {op : Oper} {a : Act} {w : World} {Q : Exit → Act → World → Prop} (hgd : op.guard = none) (x y : Operand) (ho : op.op = .store 100 x y)
    (b : Nat) (g f : Nat → Int) (hx : a.eval x = .pointer (some ⟨b, 0, none⟩)) (hy : a.eval y = .agg (arrC g)) (hR : ArrAt w b f)
    (h : ∀ w', ArrAt w' b g → w.grownBy w' (some b) → wpList Tryd.prog ops Q rest (a.put op.dst undef) w') : wpList Tryd.prog ops Q (op :: rest) a w := by
  refine wpList_plain hgd fun _ hK => ?_
  have hrun := run_storeVar_row (P := Tryd.prog) w b 100 100 (arrC f) (arrC g) hR (sArrI g) (by rw [arrC_size, arrC_size]) (arrC_one g)
  have h1 : ArrAt (w.setRow b (arrC g)) b g := setRow_heap w b (arrC f) _ 100 (0, 0) hR
  have h2 : w.grownBy (w.setRow b (arrC g)) (some b) := ⟨rfl, rfl, rfl, by simp, fun k _ hk => setRow_other w b k _ (fun e => hk (by rw [e]))⟩
  have h3 := h _ h1 h2
  unfold Oper.wp execOp
  simp only [ho, hx, hy, Instr.storeAt, Instr.sureAddr, Sem.run_bind, Sem.run_pure, Result.andThen_ok, hrun]
  exact hK _ _ h3
theorem wpList_load_arr {ops : Array Oper} {rest : List Oper} {op : Oper} {a : Act} {w : World} {Q : Exit → Act → World → Prop} (hgd : op.guard = none) (x : Operand) (ho : op.op = .load 100 x)
    (b : Nat) (f : Nat → Int) (hx : a.eval x = .pointer (some ⟨b, 0, none⟩)) (hR : ArrAt w b f)
    (h : wpList Tryd.prog ops Q rest (a.put op.dst (.agg (arrC f))) w) : wpList Tryd.prog ops Q (op :: rest) a w :=
  wpList_load_row hgd 100 x ho b hx 100 (arrC f) (0, 0) _ hR uArrI rfl (sArrI f) h
theorem results_arr_tmp {fn : Func} {p q : Tmp} (h : fn.results = #[.cell p 100, .tmp q]) (tmps : Array Value) (w : World) (b : Nat) (f : Nat → Int)
    (hp : tmps.getD p undef = .pointer (some ⟨b, 0, none⟩)) (hR : ArrAt w b f) : (results fn tmps).run Tryd.prog w = .ok (.tuple #[.agg (arrC f), tmps.getD q undef]) w := by
  have hl := run_loadVar_row (P := Tryd.prog) w b 100 100 (arrC f) (0, 0) _ hR uArrI rfl (sArrI f)
  have hp' : tmps[p]?.getD undef = .pointer (some ⟨b, 0, none⟩) := by simpa using hp
  simp [results, h, hp', asAddr, hl]

/-! ### places -/
def okL (n : Int) (l : List Int) : Bool := decide (0 ≤ n ∧ n ≤ 48 ∧ (l.length : Int) = n) && decide ((∀ z ∈ l, 0 ≤ z ∧ z < n) ∧ l.Nodup)
def PlacesOut (n : Int) (zs : List Int) (ok : Bool) (w : World) (e : Ending) (w' : World) : Prop :=
  ∃ f, e = .returned (.tuple #[.agg (arrC f), .bool ok]) ∧ (ok = true → ∀ i, i < zs.length → f (zs.getD i 0).toNat = i) ∧ Below w.heap.size w w'
theorem take_snoc_get {l : List Int} {k : Nat} (h : k < l.length) : l.take (k + 1) = l.take k ++ [l.getD k 0] := by
  rw [List.take_add_one, List.getD_eq_getElem?_getD, List.getElem?_eq_getElem h]; rfl

attribute [local go_sem] Bv.and_u Bv.or_u Bv.andNot_u Bv.wrap_sub1 Bv.eq0 Bv.ne0 Bv.wrap_pow Bv.wrap_powmin Bv.wrap_neg Bv.eq_u Bv.ne_u Bv.shr_min Bv.shr_pow Bv.tmod2 Bv.and1 Bv.wrap_add Bv.B1_eq1 Bv.B1_eq0 Bv.B1_ne1 Bv.B1_ne0
set_option maxRecDepth 100000 in
set_option maxHeartbeats 2000000 in
theorem places_pre (n : Int) (A : Option Addr) (zs : List Int) (cap : Nat) (w : World) (hn : ¬ (0 ≤ n ∧ n ≤ 48 ∧ (zs.length : Int) = n)) :
    Calls Tryd.prog 94 #[.int .i64 n, .slice A zs.length cap] w (PlacesOut n zs false w) := by
  have hza := zero_arr
  have b0 := ArrAt.new w zeroI
  have b1 := ArrAt.new (w.alloc (.cells (arrC zeroI) 100)) zeroI
  rw [World.size_alloc] at b1
  have bb : Below w.heap.size w ((w.alloc (.cells (arrC zeroI) 100)).alloc (.cells (arrC zeroI) 100)) := ((Below.refl _ w).alloc (Nat.le_refl _) _).alloc (by simp) _
  have H := Lib.hid (And.intro (b0.alloc (.cells (arrC zeroI) 100)) (And.intro b1 bb))
  clear b0 b1 bb
  have hc : n < 0 ∨ (¬ n < 0 ∧ n > 48) ∨ (¬ n < 0 ∧ ¬ n > 48 ∧ ((zs.length : Int) != n) = true) := by simp; omega
  clear hn
  rcases hc with h0 | ⟨h0, h1⟩ | ⟨h0, h1, h2⟩
  all_goals
    go_enter Tryd.func94, Tryd.ntmps94
    go_wp2_with (first | (refine wpList_load_arr (by rfl) (.tmp 6) (by rfl) (w.heap.size + 1) zeroI (by rfl) H.out.2.1 ?_) | (refine wpList_store_arr (by rfl) (.tmp 4) (.tmp 22) (by rfl) w.heap.size zeroI zeroI (by rfl) (by rfl) H.out.1 ?_; intro w3 hR3 hg3))
    refine bodyPost_ret (results_arr_tmp rfl _ _ w.heap.size zeroI rfl hR3) rfl ⟨_, rfl, (fun h => by cases h), H.out.2.2.grown hg3 H.out.2.2.size (fun j e => by injection e with e; omega)⟩
set_option maxRecDepth 100000 in
set_option maxHeartbeats 4000000 in
theorem places_loop (n : Nat) (A : Option Addr) (zs : List Int) (cap : Nat) (w : World) (hn : n ≤ 48) (hl : zs.length = n) (hA : IntsAt w A zs) (ok : Bool) (hok : ok = decide ((∀ z ∈ zs, 0 ≤ z ∧ z < (n : Int)) ∧ zs.Nodup)) :
    Calls Tryd.prog 94 #[.int .i64 n, .slice A zs.length cap] w (PlacesOut n zs ok w) := by
  subst hl
  have HK := Lib.hid hok
  clear hok
  have hza := zero_arr
  have b0 := ArrAt.new w zeroI
  have b1 := ArrAt.new (w.alloc (.cells (arrC zeroI) 100)) zeroI
  rw [World.size_alloc] at b1
  have bb : Below w.heap.size w ((w.alloc (.cells (arrC zeroI) 100)).alloc (.cells (arrC zeroI) 100)) := ((Below.refl _ w).alloc (Nat.le_refl _) _).alloc (by simp) _
  have H := Lib.hid (And.intro (b0.alloc (.cells (arrC zeroI) 100)) (And.intro b1 (And.intro bb hA)))
  clear b0 b1 bb hA
  have h0 : ¬ (((zs.length : Nat) : Int) < 0) := by omega
  have h1 : ¬ (((zs.length : Nat) : Int) > 48) := by omega
  go_enter Tryd.func94, Tryd.ntmps94
  go_wp2_with fail
  go_loopw [7, 25] (fun s i wr => ∃ (k : Nat) (S : BitVec 64) (f : Nat → Int), k ≤ zs.length ∧ i = .int .i64 k ∧ s = .int .u64 (Bv.U S) ∧ (∀ j, j < 64 → (S.getLsbD j = true ↔ (j : Int) ∈ zs.take k)) ∧ (∀ z ∈ zs.take k, 0 ≤ z ∧ z < ((zs.length : Nat) : Int)) ∧ (zs.take k).Nodup ∧ ArrAt wr w.heap.size zeroI ∧ ArrAt wr (w.heap.size + 1) f ∧ (∀ j, j < k → f (zs.getD j 0).toNat = j) ∧ Below w.heap.size w wr) (fun _ i _ => zs.length - (intOf i).toNat)
  case atStart => exact ⟨0, 0#64, zeroI, Nat.zero_le _, rfl, rfl, fun j _ => by rw [Bv.zero_get]; simp, fun z hz => by simp at hz, by simp, H.out.1, H.out.2.1, fun j hj => by omega, H.out.2.2.1⟩
  case round =>
    obtain ⟨k, S, f, hk, rfl, rfl, hS, hr, hd, hR0, hR1, hf, hb⟩ := hrel
    by_cases hlt : k < zs.length
    · obtain ⟨b, off, hAe, hbl, hc⟩ := (H.out.2.2.2.below hb (Nat.le_refl _)) (by omega)
      subst hAe
      have c1 := hc k hlt
      have htk := take_snoc_get hlt
      obtain ⟨z, hz⟩ : ∃ z, z = zs.getD k 0 := ⟨_, rfl⟩
      rw [← hz] at c1 htk
      have hmem : z ∈ zs := by rw [hz, List.getD_eq_getElem?_getD, List.getElem?_eq_getElem hlt]; exact List.getElem_mem _
      have hkn : (k : Int) < 48 := by omega
      have HH := Lib.hid (And.intro hS (And.intro hr (And.intro hd (And.intro hR0 (And.intro hR1 (And.intro hf (And.intro hb (And.intro htk (And.intro hz hmem)))))))))
      have hcase : (z < 0) ∨ (¬ z < 0 ∧ ((zs.length : Nat) : Int) ≤ z) ∨ ((0 ≤ z ∧ z < ((zs.length : Nat) : Int)) ∧ z ∈ zs.take k) ∨ ((0 ≤ z ∧ z < ((zs.length : Nat) : Int)) ∧ z ∉ zs.take k) := by
        by_cases hm : z ∈ zs.take k
        · by_cases ha : z < 0
          · exact .inl ha
          · by_cases hb : ((zs.length : Nat) : Int) ≤ z
            · exact .inr (.inl ⟨ha, hb⟩)
            · exact .inr (.inr (.inl ⟨⟨by omega, by omega⟩, hm⟩))
        · by_cases ha : z < 0
          · exact .inl ha
          · by_cases hb : ((zs.length : Nat) : Int) ≤ z
            · exact .inr (.inl ⟨ha, hb⟩)
            · exact .inr (.inr (.inr ⟨⟨by omega, by omega⟩, hm⟩))
      clear hS hr hd hR0 hR1 hf hb htk hz hmem hc
      rcases hcase with g0 | ⟨g0, g1⟩ | ⟨⟨g0, g1⟩, g2⟩ | ⟨⟨g0, g1⟩, g2⟩
      · have hF : ok = false := HK.out.trans <| decide_eq_false fun h => by have := h.1 z HH.out.2.2.2.2.2.2.2.2.2; omega
        have HF := Lib.hid hF
        clear hF
        go_wp2_with (first | (refine wpList_load_arr (by rfl) (.tmp 6) (by rfl) (w.heap.size + 1) f (by rfl) HH.out.2.2.2.2.1 ?_) | (refine wpList_store_arr (by rfl) (.tmp 4) (.tmp 44) (by rfl) w.heap.size f zeroI (by rfl) (by rfl) HH.out.2.2.2.1 ?_; intro w3 hR3 hg3))
        refine bodyPost_ret (results_arr_tmp rfl _ _ w.heap.size f rfl hR3) rfl ⟨f, by rw [HF.out]; rfl, (fun h => by rw [HF.out] at h; cases h), HH.out.2.2.2.2.2.2.1.grown hg3 HH.out.2.2.2.2.2.2.1.size (fun j e => by injection e with e; omega)⟩
      · have hF : ok = false := HK.out.trans <| decide_eq_false fun h => by have := h.1 z HH.out.2.2.2.2.2.2.2.2.2; omega
        have HF := Lib.hid hF
        clear hF
        go_wp2_with (first | (refine wpList_load_arr (by rfl) (.tmp 6) (by rfl) (w.heap.size + 1) f (by rfl) HH.out.2.2.2.2.1 ?_) | (refine wpList_store_arr (by rfl) (.tmp 4) (.tmp 44) (by rfl) w.heap.size f zeroI (by rfl) (by rfl) HH.out.2.2.2.1 ?_; intro w3 hR3 hg3))
        refine bodyPost_ret (results_arr_tmp rfl _ _ w.heap.size f rfl hR3) rfl ⟨f, by rw [HF.out]; rfl, (fun h => by rw [HF.out] at h; cases h), HH.out.2.2.2.2.2.2.1.grown hg3 HH.out.2.2.2.2.2.2.1.size (fun j e => by injection e with e; omega)⟩
      · have hF : ok = false := HK.out.trans <| decide_eq_false fun h => by
          have h2 : (zs.take (k + 1)).Nodup := h.2.sublist (List.take_sublist _ _)
          rw [HH.out.2.2.2.2.2.2.2.1, List.nodup_append] at h2
          exact h2.2.2 z g2 z (by simp) rfl
        obtain ⟨a, rfl⟩ : ∃ a : Nat, z = (a : Int) := ⟨z.toNat, by omega⟩
        have hg : Bv.G S a = true := (HH.out.1 a (by omega)).2 g2
        have q0 : ¬ ((a : Int) < 0) := by omega
        have q1 : ¬ (((zs.length : Nat) : Int) ≤ (a : Int)) := by omega
        have q2 : (a : Int) < 64 := by omega
        clear g2
        have HF := Lib.hid hF
        clear hF
        go_wp2_with (first | (refine wpList_load_arr (by rfl) (.tmp 6) (by rfl) (w.heap.size + 1) f (by rfl) HH.out.2.2.2.2.1 ?_) | (refine wpList_store_arr (by rfl) (.tmp 4) (.tmp 44) (by rfl) w.heap.size f zeroI (by rfl) (by rfl) HH.out.2.2.2.1 ?_; intro w3 hR3 hg3))
        refine bodyPost_ret (results_arr_tmp rfl _ _ w.heap.size f rfl hR3) rfl ⟨f, by rw [HF.out]; rfl, (fun h => by rw [HF.out] at h; cases h), HH.out.2.2.2.2.2.2.1.grown hg3 HH.out.2.2.2.2.2.2.1.size (fun j e => by injection e with e; omega)⟩
      · obtain ⟨a, rfl⟩ : ∃ a : Nat, z = (a : Int) := ⟨z.toNat, by omega⟩
        have hg : Bv.G S a = false := by
          have h := (HH.out.1 a (by omega)).1
          cases e : Bv.G S a
          · rfl
          · exact absurd (h e) g2
        have q0 : ¬ ((a : Int) < 0) := by omega
        have q1 : ¬ (((zs.length : Nat) : Int) ≤ (a : Int)) := by omega
        have q2 : (a : Int) < 64 := by omega
        have q3 : (a : Int) < 48 := by omega
        have q4 : a < 48 := by omega
        have f1 := HH.out.2.2.2.2.1.free a
        have c2 := HH.out.2.2.2.2.1.cell a q4
        have HG := Lib.hid g2
        clear g2
        go_wp2_with fail
        go_roundw
        case rel =>
          obtain ⟨hS, hr, hd, hR0, hR1, hf, hb, htk, hz, hmem⟩ := HH.out
          refine ⟨k + 1, S ||| Bv.bit a, updA f a k, by omega, by go_num, rfl, fun j hj => ?_, fun z h => ?_, ?_, hR0.other _ _ (by simp), hR1.set a k, fun j hj => ?_, hb.setCell (p := ⟨w.heap.size + 1, a, none⟩) (by simp) _⟩
          · rw [htk, List.mem_append, BitVec.getLsbD_or, Bool.or_eq_true, hS j hj, Bv.bit_get a j (by omega), decide_eq_true_eq, List.mem_singleton]
            exact or_congr Iff.rfl ⟨fun e => by omega, fun e => by omega⟩
          · rw [htk, List.mem_append] at h
            rcases h with h | h
            · exact hr z h
            · simp at h; subst h; exact ⟨g0, g1⟩
          · rw [htk, List.nodup_append]
            exact ⟨hd, by simp, fun x hx y hy e => by simp at hy; subst hy; subst e; exact HG.out hx⟩
          · unfold updA
            by_cases e : j = k
            · subst e; rw [← hz]; simp
            · have hjk : j < k := by omega
              have hm : zs.getD j 0 ∈ zs.take k := by
                rw [List.mem_take_iff_getElem]; exact ⟨j, by omega, by rw [List.getD_eq_getElem?_getD, List.getElem?_eq_getElem (by omega)]; rfl⟩
              have h3 := hr _ hm
              rw [if_neg (fun e2 => by have : zs.getD j 0 = (a : Int) := by omega
                                       rw [this] at hm; exact HG.out hm)]
              exact hf j hjk
        case measure => simp [intOf]; omega
    · obtain rfl : k = zs.length := by omega
      rw [List.take_length] at hr hd
      have hF : ok = true := HK.out.trans <| decide_eq_true ⟨hr, hd⟩
      have HH := Lib.hid (And.intro hR0 (And.intro hR1 (And.intro hf hb)))
      clear hS hr hd hR0 hR1 hf hb
      have HF := Lib.hid hF
      clear hF
      go_wp2_with (first | (refine wpList_load_arr (by rfl) (.tmp 6) (by rfl) (w.heap.size + 1) f (by rfl) HH.out.2.1 ?_) | (refine wpList_store_arr (by rfl) (.tmp 4) (.tmp 53) (by rfl) w.heap.size f zeroI (by rfl) (by rfl) HH.out.1 ?_; intro w3 hR3 hg3))
      refine bodyPost_ret (results_arr_tmp rfl _ _ w.heap.size f rfl hR3) rfl ⟨f, by rw [HF.out]; rfl, fun _ => HH.out.2.2.1, HH.out.2.2.2.grown hg3 HH.out.2.2.2.size (fun j e => by injection e with e; omega)⟩
theorem places_any (n : Int) (A : Option Addr) (zs : List Int) (cap : Nat) (w : World) (hA : IntsAt w A zs) :
    Calls Tryd.prog 94 #[.int .i64 n, .slice A zs.length cap] w (PlacesOut n zs (okL n zs) w) := by
  unfold okL
  by_cases h : 0 ≤ n ∧ n ≤ 48 ∧ (zs.length : Int) = n
  · rw [decide_eq_true h, Bool.true_and]
    obtain ⟨m, rfl⟩ : ∃ m : Nat, n = (m : Int) := ⟨n.toNat, by omega⟩
    exact places_loop m A zs cap w (by omega) (by omega) hA _ rfl
  · rw [decide_eq_false h, Bool.false_and]
    exact places_pre n A zs cap w h
end Go.Proofs.YtknjdfgmejobfaaDoor
