/- what opens a relation that comes in by value. -/
import Derived.Test.YtknjdfgmejobfaaDoorOq
import Derived.Test.YtknjdfgmejobfaaDoorNy
namespace Go.Proofs.YtknjdfgmejobfaaDoor
open Go.ChangeShapes Go.WideShapes Go.ChangeAt Go.RowKit

theorem cellsRel : Tryd.prog.cellsOf 26 = 49 := by kernel_rfl
theorem cellsSet : Tryd.prog.cellsOf 23 = 1 := by kernel_rfl
theorem fieldsRel : (Tryd.prog.fieldsOf 26).toList.map (fun f => (f.type, f.offset, Tryd.prog.cellsOf f.type)) = [(3, 0, 1), (24, 1, 48)] := by kernel_rfl
set_option maxRecDepth 100000 in
theorem open_rel_gen {fs0 : Array Field} (uRel : Tryd.prog.underlying 26 = some (.struct fs0)) (hfs : fs0.toList.map (fun f => (f.type, f.offset, Tryd.prog.cellsOf f.type)) = [(3, 0, 1), (24, 1, 48)]) {H : Type} {enc : TypeId × Value → H} {W : World} {r : Reach} {b0 base : Nat} {spare : Nat → Bool} {held : Bool} {v : Value} {d : DataW H} {p : List MemPlace}
    (hv : Value.okWide Tryd.prog W r b0 26 v) (h : DataW.Trod enc Tryd.prog W base spare held 26 v d p) : ∃ (n : Int) (f : Rl.Rows), v = .agg (relC n f) ∧ Rl.Z f := by
  obtain ⟨cs, rfl, hsz⟩ := okWide_struct uRel hv
  rw [cellsRel] at hsz
  obtain ⟨fuel, hf⟩ := h
  obtain ⟨xs, m, _, _, _, hl, hget⟩ := DataW.trod_struct uRel hf
  have hget2 : ∀ (i : Nat) (f : Field), fs0.toList[i]? = some f → DataW.trod enc Tryd.prog W base spare held m f.type (((Value.agg cs).cells.toList.drop f.offset).take (Tryd.prog.cellsOf f.type)) = xs[i]? := fun i f hi => hget i f (by simpa using hi)
  have hl2 : xs.length = fs0.toList.length := by simpa using hl
  clear hget hl
  generalize fs0.toList = fs at hfs hget2 hl2
  obtain ⟨f0, f1, rfl⟩ : ∃ a b, fs = [a, b] := by
    rcases fs with _ | ⟨a, _ | ⟨b, _ | ⟨c, t⟩⟩⟩
    · simp at hfs
    · simp at hfs
    · exact ⟨a, b, rfl⟩
    · simp at hfs
  simp only [List.map_cons, List.map_nil, List.cons.injEq, Prod.mk.injEq, and_true] at hfs
  obtain ⟨⟨t0, o0, c0⟩, t1, o1, c1⟩ := hfs
  obtain ⟨x0, x1, rfl⟩ : ∃ a b, xs = [a, b] := by
    rcases xs with _ | ⟨a, _ | ⟨b, _ | ⟨c, t⟩⟩⟩
    · simp at hl2
    · simp at hl2
    · exact ⟨a, b, rfl⟩
    · simp at hl2
  have h0 := hget2 0 f0 rfl
  have h1 := hget2 1 f1 rfl
  rw [c0, o0, t0] at h0
  rw [c1, o1, t1] at h1
  obtain ⟨n, e0, _, _⟩ := DataW.trod_int uInt h0
  obtain ⟨ys, m1, _, _, hcl, hyl, hel⟩ := DataW.trod_array uArr h1
  rw [cellsSet] at hel
  have hcells : (Value.agg cs).cells.toList = cs.toList := rfl
  rw [hcells] at e0 hel
  have hcs : cs.toList.length = 49 := by simpa using hsz
  have hn : cs[0]? = some (.int .i64 n) := by
    have := congrArg (fun l : List Value => l[0]?) e0
    simpa [List.getElem?_take] using this
  have hrow : ∀ i, i < 48 → ∃ s : BitVec 64, cs[1 + i]? = some (.int .u64 (Bv.U s)) := by
    intro i hi
    have hi' := hel i hi
    obtain ⟨y, hy⟩ : ∃ y, ys[i]? = some y := ⟨_, List.getElem?_eq_getElem (by omega)⟩
    rw [hy] at hi'
    obtain ⟨z, ez, _, wz⟩ := DataW.trod_int uSet hi'
    obtain ⟨s, rfl⟩ := Bv.U_of z (bounds_u64 wz).1 (by have := (bounds_u64 wz).2; omega)
    refine ⟨s, ?_⟩
    have := congrArg (fun l : List Value => l[0]?) ez
    simp [List.getElem?_take, hi] at this
    rw [Nat.add_comm]; simpa using this
  refine ⟨n, fun i => if h : i < 48 then (hrow i h).choose else 0#64, ?_, fun a ha => dif_neg (by omega)⟩
  congr 1
  apply Array.ext_getElem?
  intro i
  cases i with
  | zero => rw [hn, relC_zero]
  | succ i =>
    by_cases hi : i < 48
    · rw [Nat.add_comm i 1, relC_row _ _ _ hi, dif_pos hi]; exact (hrow i hi).choose_spec
    · rw [Array.getElem?_eq_none (by omega), Array.getElem?_eq_none (by rw [relC_size]; omega)]
set_option maxRecDepth 100000 in
theorem open_rel {H : Type} {enc : TypeId × Value → H} {W : World} {r : Reach} {b0 base : Nat} {spare : Nat → Bool} {held : Bool} {v : Value} {d : DataW H} {p : List MemPlace}
    (hv : Value.okWide Tryd.prog W r b0 26 v) (h : DataW.Trod enc Tryd.prog W base spare held 26 v d p) : ∃ (n : Int) (f : Rl.Rows), v = .agg (relC n f) ∧ Rl.Z f := open_rel_gen uRel fieldsRel hv h
end Go.Proofs.YtknjdfgmejobfaaDoor
