/- package rel: Union, Both, Less, Then. -/
import Derived.Test.YtknjdfgmejobfaaDoorNe
namespace Go.Proofs.YtknjdfgmejobfaaDoor
open Go.RowKit Go.Shelf

attribute [local go_sem] Bv.and_u Bv.or_u Bv.andNot_u Bv.wrap_sub1 Bv.eq0 Bv.ne0 Bv.wrap_pow Bv.wrap_powmin Bv.wrap_neg

set_option maxRecDepth 100000 in
set_option maxHeartbeats 1000000 in
theorem union1 (pa pb k : Nat) (n m : Int) (f g : Rl.Rows) (w : World) (hk : k < 48) (ha : RelAt w pa n f) (hb : RelAt w pb m g) :
    Calls Tryd.prog 74 #[.int .i64 k, .pointer (some ⟨pa, 0, none⟩), .pointer (some ⟨pb, 0, none⟩)] w fun e w' => e = .returned (.int .u64 (Bv.U (f k ||| g k))) ∧ Below w.heap.size w w' := by
  have ca := ha.row k hk
  have cb := hb.row k hk
  have q0 : (0 : Int) ≤ (k : Int) := by omega
  have q1 : (k : Int) < 48 := by omega
  obtain ⟨x, hx⟩ : ∃ x, x = f k := ⟨_, rfl⟩
  obtain ⟨y, hy⟩ : ∃ y, y = g k := ⟨_, rfl⟩
  rw [← hx] at ca ⊢
  rw [← hy] at cb ⊢
  clear ha hb hx hy
  go_enter Tryd.func74, Tryd.ntmps74
  go_wp2_with fail
  go_quiet (fail)
  go_wp2
  go_ret
  exact ⟨rfl, by repeat (first | exact Below.refl _ _ | exact below_drewN (Below.refl _ _) _ | refine Below.drew ?_)⟩
set_option maxRecDepth 100000 in
set_option maxHeartbeats 1000000 in
theorem both1 (pa pb k : Nat) (n m : Int) (f g : Rl.Rows) (w : World) (hk : k < 48) (ha : RelAt w pa n f) (hb : RelAt w pb m g) :
    Calls Tryd.prog 89 #[.int .i64 k, .pointer (some ⟨pa, 0, none⟩), .pointer (some ⟨pb, 0, none⟩)] w fun e w' => e = .returned (.int .u64 (Bv.U (f k &&& g k))) ∧ Below w.heap.size w w' := by
  have ca := ha.row k hk
  have cb := hb.row k hk
  have q0 : (0 : Int) ≤ (k : Int) := by omega
  have q1 : (k : Int) < 48 := by omega
  obtain ⟨x, hx⟩ : ∃ x, x = f k := ⟨_, rfl⟩
  obtain ⟨y, hy⟩ : ∃ y, y = g k := ⟨_, rfl⟩
  rw [← hx] at ca ⊢
  rw [← hy] at cb ⊢
  clear ha hb hx hy
  go_enter Tryd.func89, Tryd.ntmps89
  go_wp2_with fail
  go_quiet (fail)
  go_wp2
  go_ret
  exact ⟨rfl, by repeat (first | exact Below.refl _ _ | exact below_drewN (Below.refl _ _) _ | refine Below.drew ?_)⟩
set_option maxRecDepth 100000 in
set_option maxHeartbeats 1000000 in
theorem less1 (pa pb k : Nat) (n m : Int) (f g : Rl.Rows) (w : World) (hk : k < 48) (ha : RelAt w pa n f) (hb : RelAt w pb m g) :
    Calls Tryd.prog 88 #[.int .i64 k, .pointer (some ⟨pa, 0, none⟩), .pointer (some ⟨pb, 0, none⟩)] w fun e w' => e = .returned (.int .u64 (Bv.U (f k &&& ~~~ (g k)))) ∧ Below w.heap.size w w' := by
  have ca := ha.row k hk
  have cb := hb.row k hk
  have q0 : (0 : Int) ≤ (k : Int) := by omega
  have q1 : (k : Int) < 48 := by omega
  obtain ⟨x, hx⟩ : ∃ x, x = f k := ⟨_, rfl⟩
  obtain ⟨y, hy⟩ : ∃ y, y = g k := ⟨_, rfl⟩
  rw [← hx] at ca ⊢
  rw [← hy] at cb ⊢
  clear ha hb hx hy
  go_enter Tryd.func88, Tryd.ntmps88
  go_wp2_with fail
  go_quiet (fail)
  go_wp2
  go_ret
  exact ⟨rfl, by repeat (first | exact Below.refl _ _ | exact below_drewN (Below.refl _ _) _ | refine Below.drew ?_)⟩
set_option maxRecDepth 100000 in
set_option maxHeartbeats 1000000 in
theorem then1 (pa pb k : Nat) (n m : Int) (f g : Rl.Rows) (w : World) (hk : k < 48) (ha : RelAt w pa n f) (hb : RelAt w pb m g) (hs : ∀ i, (f k).getLsbD i = true → i < 48) (hT : Tab w) (hw : 0 < w.heap.size) :
    Calls Tryd.prog 72 #[.int .i64 k, .pointer (some ⟨pb, 0, none⟩), .pointer (some ⟨pa, 0, none⟩)] w fun e w' => e = .returned (.int .u64 (Bv.U (Rl.image g (f k)))) ∧ Below w.heap.size w w' := by
  have ca := ha.row k hk
  have q0 : (0 : Int) ≤ (k : Int) := by omega
  have q1 : (k : Int) < 48 := by omega
  obtain ⟨x, hx⟩ : ∃ x, x = f k := ⟨_, rfl⟩
  rw [← hx] at ca hs ⊢
  have H := Lib.hid (And.intro hb (And.intro hs hT))
  clear ha hb hx hs hT
  go_enter Tryd.func72, Tryd.ntmps72
  go_wp2_with fail
  refine (image_any pb m g x _ H.out.1 H.out.2.1 H.out.2.2 hw).mono ?_
  rintro e w1 ⟨rfl, hb1⟩
  have B := Lib.hid hb1
  clear hb1
  go_wp2_with fail
  go_ret
  exact ⟨rfl, B.out⟩
set_option maxRecDepth 100000 in
set_option maxHeartbeats 1000000 in
theorem union_any (n m : Int) (f g : Rl.Rows) (w : World) (zf : Rl.Z f) (zg : Rl.Z g) :
    Calls Tryd.prog 19 #[.agg (relC n f), .agg (relC m g)] w fun e w' => e = .returned (.tuple #[.agg (relC (combN n m f g) (combF n m f g fun k => f k ||| g k)), .int .i64 (combE n m f g)]) ∧ Below w.heap.size w w' := by
  have h0 := ((RelAt.new w n f).alloc (.cells (relC m g) 26)).alloc (.cells (relC 0 zeroR) 26)
  have h1 := (RelAt.new (w.alloc (.cells (relC n f) 26)) m g).alloc (.cells (relC 0 zeroR) 26)
  have h2 := RelAt.new ((w.alloc (.cells (relC n f) 26)).alloc (.cells (relC m g) 26)) 0 zeroR
  rw [World.size_alloc] at h1
  simp only [World.size_alloc] at h2
  have hB := ((((Below.refl w.heap.size w).alloc (Nat.le_refl _) (.cells (relC n f) 26)).alloc (by simp) (.cells (relC m g) 26)).alloc (by simp; omega) (.cells (relC 0 zeroR) 26))
  have H := Lib.hid (And.intro h0 (And.intro h1 (And.intro h2 hB)))
  have eg := enters_of Tryd.func74 (by kernel_rfl) rfl
  have EG := Lib.hid eg
  have hzr := zero_rel

  clear h0 h1 h2 hB eg
  go_enter Tryd.func19, Tryd.ntmps19
  go_wp2_with fail
  refine (combine_any w.heap.size (w.heap.size + 1) n m f g (fun k => f k ||| g k) 74 #[.pointer (some ⟨w.heap.size, 0, none⟩), .pointer (some ⟨w.heap.size + 1, 0, none⟩)] _ zf zg H.out.1 H.out.2.1 EG.out ?_).mono ?_
  · intro k a W hn hm o1 o2 hak hb
    have hlt := o1.le
    have r0 := H.out.1.below hb (by first | (simp; done) | (simp; omega))
    have r1 := H.out.2.1.below hb (by first | (simp; done) | (simp; omega))
    exact union1 _ _ a n m f g W (by omega) r0 r1
  rintro e w1 ⟨rfl, hb⟩
  have H1 := Lib.hid (And.intro (H.out.2.2.1.below hb (by simp)) (H.out.2.2.2.trans (hb.mono H.out.2.2.2.size)))
  clear hb
  go_wp2_with (refine wpList_store_rel (by rfl) (.tmp 4) (.tmp 8) (by rfl) (w.heap.size + 1 + 1) (combN n m f g) 0 (combF n m f g fun k => f k ||| g k) zeroR (by rfl) (by rfl) H1.out.1 ?_; intro w3 hR3 hg3)
  refine bodyPost_ret (results_rel_tmp rfl _ _ (w.heap.size + 1 + 1) _ _ rfl hR3) rfl ⟨rfl, H1.out.2.grown hg3 H1.out.2.size (fun j e => by injection e with e; omega)⟩
set_option maxRecDepth 100000 in
set_option maxHeartbeats 1000000 in
theorem both_any (n m : Int) (f g : Rl.Rows) (w : World) (zf : Rl.Z f) (zg : Rl.Z g) :
    Calls Tryd.prog 42 #[.agg (relC n f), .agg (relC m g)] w fun e w' => e = .returned (.tuple #[.agg (relC (combN n m f g) (combF n m f g fun k => f k &&& g k)), .int .i64 (combE n m f g)]) ∧ Below w.heap.size w w' := by
  have h0 := ((RelAt.new w n f).alloc (.cells (relC m g) 26)).alloc (.cells (relC 0 zeroR) 26)
  have h1 := (RelAt.new (w.alloc (.cells (relC n f) 26)) m g).alloc (.cells (relC 0 zeroR) 26)
  have h2 := RelAt.new ((w.alloc (.cells (relC n f) 26)).alloc (.cells (relC m g) 26)) 0 zeroR
  rw [World.size_alloc] at h1
  simp only [World.size_alloc] at h2
  have hB := ((((Below.refl w.heap.size w).alloc (Nat.le_refl _) (.cells (relC n f) 26)).alloc (by simp) (.cells (relC m g) 26)).alloc (by simp; omega) (.cells (relC 0 zeroR) 26))
  have H := Lib.hid (And.intro h0 (And.intro h1 (And.intro h2 hB)))
  have eg := enters_of Tryd.func89 (by kernel_rfl) rfl
  have EG := Lib.hid eg
  have hzr := zero_rel

  clear h0 h1 h2 hB eg
  go_enter Tryd.func42, Tryd.ntmps42
  go_wp2_with fail
  refine (combine_any w.heap.size (w.heap.size + 1) n m f g (fun k => f k &&& g k) 89 #[.pointer (some ⟨w.heap.size, 0, none⟩), .pointer (some ⟨w.heap.size + 1, 0, none⟩)] _ zf zg H.out.1 H.out.2.1 EG.out ?_).mono ?_
  · intro k a W hn hm o1 o2 hak hb
    have hlt := o1.le
    have r0 := H.out.1.below hb (by first | (simp; done) | (simp; omega))
    have r1 := H.out.2.1.below hb (by first | (simp; done) | (simp; omega))
    exact both1 _ _ a n m f g W (by omega) r0 r1
  rintro e w1 ⟨rfl, hb⟩
  have H1 := Lib.hid (And.intro (H.out.2.2.1.below hb (by simp)) (H.out.2.2.2.trans (hb.mono H.out.2.2.2.size)))
  clear hb
  go_wp2_with (refine wpList_store_rel (by rfl) (.tmp 4) (.tmp 8) (by rfl) (w.heap.size + 1 + 1) (combN n m f g) 0 (combF n m f g fun k => f k &&& g k) zeroR (by rfl) (by rfl) H1.out.1 ?_; intro w3 hR3 hg3)
  refine bodyPost_ret (results_rel_tmp rfl _ _ (w.heap.size + 1 + 1) _ _ rfl hR3) rfl ⟨rfl, H1.out.2.grown hg3 H1.out.2.size (fun j e => by injection e with e; omega)⟩
set_option maxRecDepth 100000 in
set_option maxHeartbeats 1000000 in
theorem less_any (n m : Int) (f g : Rl.Rows) (w : World) (zf : Rl.Z f) (zg : Rl.Z g) :
    Calls Tryd.prog 40 #[.agg (relC n f), .agg (relC m g)] w fun e w' => e = .returned (.tuple #[.agg (relC (combN n m f g) (combF n m f g fun k => f k &&& ~~~ (g k))), .int .i64 (combE n m f g)]) ∧ Below w.heap.size w w' := by
  have h0 := ((RelAt.new w n f).alloc (.cells (relC m g) 26)).alloc (.cells (relC 0 zeroR) 26)
  have h1 := (RelAt.new (w.alloc (.cells (relC n f) 26)) m g).alloc (.cells (relC 0 zeroR) 26)
  have h2 := RelAt.new ((w.alloc (.cells (relC n f) 26)).alloc (.cells (relC m g) 26)) 0 zeroR
  rw [World.size_alloc] at h1
  simp only [World.size_alloc] at h2
  have hB := ((((Below.refl w.heap.size w).alloc (Nat.le_refl _) (.cells (relC n f) 26)).alloc (by simp) (.cells (relC m g) 26)).alloc (by simp; omega) (.cells (relC 0 zeroR) 26))
  have H := Lib.hid (And.intro h0 (And.intro h1 (And.intro h2 hB)))
  have eg := enters_of Tryd.func88 (by kernel_rfl) rfl
  have EG := Lib.hid eg
  have hzr := zero_rel

  clear h0 h1 h2 hB eg
  go_enter Tryd.func40, Tryd.ntmps40
  go_wp2_with fail
  refine (combine_any w.heap.size (w.heap.size + 1) n m f g (fun k => f k &&& ~~~ (g k)) 88 #[.pointer (some ⟨w.heap.size, 0, none⟩), .pointer (some ⟨w.heap.size + 1, 0, none⟩)] _ zf zg H.out.1 H.out.2.1 EG.out ?_).mono ?_
  · intro k a W hn hm o1 o2 hak hb
    have hlt := o1.le
    have r0 := H.out.1.below hb (by first | (simp; done) | (simp; omega))
    have r1 := H.out.2.1.below hb (by first | (simp; done) | (simp; omega))
    exact less1 _ _ a n m f g W (by omega) r0 r1
  rintro e w1 ⟨rfl, hb⟩
  have H1 := Lib.hid (And.intro (H.out.2.2.1.below hb (by simp)) (H.out.2.2.2.trans (hb.mono H.out.2.2.2.size)))
  clear hb
  go_wp2_with (refine wpList_store_rel (by rfl) (.tmp 4) (.tmp 8) (by rfl) (w.heap.size + 1 + 1) (combN n m f g) 0 (combF n m f g fun k => f k &&& ~~~ (g k)) zeroR (by rfl) (by rfl) H1.out.1 ?_; intro w3 hR3 hg3)
  refine bodyPost_ret (results_rel_tmp rfl _ _ (w.heap.size + 1 + 1) _ _ rfl hR3) rfl ⟨rfl, H1.out.2.grown hg3 H1.out.2.size (fun j e => by injection e with e; omega)⟩
set_option maxRecDepth 100000 in
set_option maxHeartbeats 1000000 in
theorem then_any (n m : Int) (f g : Rl.Rows) (w : World) (zf : Rl.Z f) (zg : Rl.Z g) (hT : Tab w) (hw : 0 < w.heap.size) :
    Calls Tryd.prog 18 #[.agg (relC n f), .agg (relC m g)] w fun e w' => e = .returned (.tuple #[.agg (relC (combN n m f g) (combF n m f g fun k => Rl.image g (f k))), .int .i64 (combE n m f g)]) ∧ Below w.heap.size w w' := by
  have h0 := ((RelAt.new w n f).alloc (.cells (relC m g) 26)).alloc (.cells (relC 0 zeroR) 26)
  have h1 := (RelAt.new (w.alloc (.cells (relC n f) 26)) m g).alloc (.cells (relC 0 zeroR) 26)
  have h2 := RelAt.new ((w.alloc (.cells (relC n f) 26)).alloc (.cells (relC m g) 26)) 0 zeroR
  rw [World.size_alloc] at h1
  simp only [World.size_alloc] at h2
  have hB := ((((Below.refl w.heap.size w).alloc (Nat.le_refl _) (.cells (relC n f) 26)).alloc (by simp) (.cells (relC m g) 26)).alloc (by simp; omega) (.cells (relC 0 zeroR) 26))
  have H := Lib.hid (And.intro h0 (And.intro h1 (And.intro h2 hB)))
  have eg := enters_of Tryd.func72 (by kernel_rfl) rfl
  have EG := Lib.hid eg
  have hzr := zero_rel
  have HT := Lib.hid hT
  clear h0 h1 h2 hB eg hT
  go_enter Tryd.func18, Tryd.ntmps18
  go_wp2_with fail
  refine (combine_any w.heap.size (w.heap.size + 1) n m f g (fun k => Rl.image g (f k)) 72 #[.pointer (some ⟨w.heap.size + 1, 0, none⟩), .pointer (some ⟨w.heap.size, 0, none⟩)] _ zf zg H.out.1 H.out.2.1 EG.out ?_).mono ?_
  · intro k a W hn hm o1 o2 hak hb
    have hlt := o1.le
    have r0 := H.out.1.below hb (by first | (simp; done) | (simp; omega))
    have r1 := H.out.2.1.below hb (by first | (simp; done) | (simp; omega))
    exact then1 _ _ a n m f g W (by omega) r0 r1 (fun i hi => by have := (o1.in_ a i hi).2; omega) (HT.out.below (H.out.2.2.2.trans (hb.mono H.out.2.2.2.size)) hw) (Nat.lt_of_lt_of_le hw (Nat.le_trans H.out.2.2.2.size hb.size))
  rintro e w1 ⟨rfl, hb⟩
  have H1 := Lib.hid (And.intro (H.out.2.2.1.below hb (by simp)) (H.out.2.2.2.trans (hb.mono H.out.2.2.2.size)))
  clear hb
  go_wp2_with (refine wpList_store_rel (by rfl) (.tmp 4) (.tmp 8) (by rfl) (w.heap.size + 1 + 1) (combN n m f g) 0 (combF n m f g fun k => Rl.image g (f k)) zeroR (by rfl) (by rfl) H1.out.1 ?_; intro w3 hR3 hg3)
  refine bodyPost_ret (results_rel_tmp rfl _ _ (w.heap.size + 1 + 1) _ _ rfl hR3) rfl ⟨rfl, H1.out.2.grown hg3 H1.out.2.size (fun j e => by injection e with e; omega)⟩
end Go.Proofs.YtknjdfgmejobfaaDoor
