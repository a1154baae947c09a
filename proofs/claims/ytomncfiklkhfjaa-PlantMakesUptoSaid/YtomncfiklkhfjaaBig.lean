/- Rows of many cells, kept whole: stores, slice literals of one row, copies. Over any program. No program's function is walked here. -/
import Derived.Test.YtomncfiklkhfjaaVec
import Derived.Great.BuildSlice
namespace Go.Proofs.Ytomncfiklkhfjaa.Mem
open Go Go.RowKit
theorem setCells_blk {g : Nat} {t : TypeId} : ∀ (vs cs : List Value) (o : Nat) (w : World), Blk w g t cs.toArray → o + vs.length ≤ cs.length →
    Blk (w.setCells g o vs) g t (cs.take o ++ vs ++ cs.drop (o + vs.length)).toArray ∧ w.grownBy (w.setCells g o vs) (some g) ∧ (w.setCells g o vs).heap.size = w.heap.size
  | [], cs, o, w, h, hle => ⟨by simpa [World.setCells] using h, World.grownBy.refl w _, rfl⟩
  | v :: r, cs, o, w, h, hle => by
    simp only [List.length_cons] at hle
    have h1 : Blk (w.setCell ⟨g, o, none⟩ v) g t (cs.set o v).toArray := by
      have := h.set_ o v
      simpa using this
    obtain ⟨k1, k2, k3⟩ := setCells_blk r (cs.set o v) (o + 1) (w.setCell ⟨g, o, none⟩ v) h1 (by simp; omega)
    refine ⟨?_, ?_, ?_⟩
    · rw [World.setCells]
      have e : (cs.set o v).take (o + 1) ++ r ++ (cs.set o v).drop (o + 1 + r.length) = cs.take o ++ v :: r ++ cs.drop (o + (v :: r).length) := by
        have e1 : (cs.set o v).take (o + 1) = cs.take o ++ [v] := by
          rw [List.take_succ_eq_append_getElem (by simp; omega), List.take_set_of_le (Nat.le_refl _)]
          simp
        have e2 : (cs.set o v).drop (o + 1 + r.length) = cs.drop (o + (v :: r).length) := by
          rw [List.drop_set_of_lt (by omega)]
          congr 1
          simp
          omega
        rw [e1, e2]
        simp
      rw [← e]
      exact k1
    · rw [World.setCells]
      exact grown_trans (grownBy_setCell w ⟨g, o, none⟩ v (some g) rfl) k2
    · rw [World.setCells, k3]
      simp [World.setCell]
section
variable {P : Program} {w : World}
/-- A store of a row into the midst of a block that is known whole. -/
theorem wpList_store_in {ops : Array Oper} {rest : List Oper} {op : Oper} {a : Act} {Q : Exit → Act → World → Prop} (hgd : op.guard = none) (ty : TypeId) (x y : Operand) (ho : op.op = .store ty x y)
    (g o : Nat) (te : TypeId) (old new : List Value) (hx : a.eval x = .pointer (some ⟨g, o, none⟩)) (hy : a.eval y = .agg new.toArray) (hb : Blk w g te old.toArray) (hfit : o + new.length ≤ old.length)
    (hi : (P.info? ty).map (·.size) = some new.length) (h1 : ∀ v ∈ new, v.oneCell' = true)
    (h : ∀ w', Blk w' g te (old.take o ++ new ++ old.drop (o + new.length)).toArray → w.grownBy w' (some g) → w'.heap.size = w.heap.size → wpList P ops Q rest (a.put op.dst undef) w') : wpList P ops Q (op :: rest) a w := by
  refine wpList_store_mid hgd ty x y ho g o new.toArray hx hy (fun j hj => ⟨by rw [hb.cell]; simp at hj ⊢; omega, hb.frozen _⟩) (by simpa using hi) (all_oneCell_toArray h1) ?_
  obtain ⟨k1, k2, k3⟩ := setCells_blk new old o w hb hfit
  exact h _ k1 k2 k3
/-- A store of all cells of a block. -/
theorem wpList_store_all {ops : Array Oper} {rest : List Oper} {op : Oper} {a : Act} {Q : Exit → Act → World → Prop} (hgd : op.guard = none) (ty : TypeId) (x y : Operand) (ho : op.op = .store ty x y)
    (g : Nat) (te : TypeId) (old new : List Value) (hx : a.eval x = .pointer (some ⟨g, 0, none⟩)) (hy : a.eval y = .agg new.toArray) (hb : Blk w g te old.toArray) (hlen : new.length = old.length)
    (hi : (P.info? ty).map (·.size) = some new.length) (h1 : ∀ v ∈ new, v.oneCell' = true)
    (h : ∀ w', Blk w' g te new.toArray → w.grownBy w' (some g) → w'.heap.size = w.heap.size → wpList P ops Q rest (a.put op.dst undef) w') : wpList P ops Q (op :: rest) a w :=
  wpList_store_in hgd ty x y ho g 0 te old new hx hy hb (by omega) hi h1 fun w' k1 k2 k3 => h w' (by
    have e : old.take 0 ++ new ++ old.drop (0 + new.length) = new := by rw [Nat.zero_add, List.drop_eq_nil_of_le (by omega)]; simp
    rw [e] at k1
    exact k1) k2 k3
/-- 'copy' of bytes into the midst of a block. -/
theorem wpList_copy_in {ops : Array Oper} {rest : List Oper} {o : Oper} {a : Act} {Q : Exit → Act → World → Prop} (hgd : o.guard = none) (s x : Operand) (t : TypeId)
    (ho : o.op = .call { callee := .builtin .copy, args := #[s, x], argTypes := #[t, t] }) (e : TypeId) (T : ByteTy P t e) (g off dl dc te : Nat) (old : List Value) (hs : a.eval s = .slice (some ⟨g, off, none⟩) dl dc)
    (hg : Blk w g te old.toArray) (B : Option Addr) (m d : Nat) (bs : List UInt8) (hx : a.eval x = .slice B m d) (hb : BAt w B bs) (hm : bs.length = m) (h0 : 0 < m) (hk : m = dl) (hfit : off + m ≤ old.length)
    (h : ∀ w', Blk w' g te (old.take off ++ bs.map B8 ++ old.drop (off + m)).toArray → w.grownBy w' (some g) → w'.heap.size = w.heap.size → wpList P ops Q rest (a.put o.dst (.int .i64 (m : Int))) w') : wpList P ops Q (o :: rest) a w :=
  wpList_plain hgd fun _ hK => by
    obtain ⟨w', hrun, h2, h3, h4⟩ := run_copy_mid (P := P) (w := w) t e o.type T g off dl dc te old hg B m d bs hb hm h0 hk hfit
    unfold Oper.wp execOp
    simp only [ho, resolve, invoke, builtin, Sem.run_bind, Sem.run_pure, Result.andThen_ok, List.map_toArray, List.map_cons, List.map_nil, hs, hx, hrun]
    exact hK _ _ (h w' h2 h3 h4)
theorem fold_sets : ∀ (row : List Value) (k : Nat) (cells : Array Value), k + row.length ≤ cells.size →
    (row.zipIdx k).foldl (fun (cs : Array Value) (x : Value × Nat) => cs.setIfInBounds x.2 x.1) cells = (cells.toList.take k ++ row ++ cells.toList.drop (k + row.length)).toArray
  | [], k, cells, h => by simp
  | v :: r, k, cells, h => by
    simp only [List.length_cons] at h
    rw [List.zipIdx_cons, List.foldl_cons, fold_sets r (k + 1) _ (by simp; omega)]
    congr 1
    rw [Array.toList_setIfInBounds]
    have e1 : (cells.toList.set k v).take (k + 1) = cells.toList.take k ++ [v] := by
      rw [List.take_succ_eq_append_getElem (by simp; omega), List.take_set_of_le (Nat.le_refl _)]
      simp
    have e2 : (cells.toList.set k v).drop (k + 1 + r.length) = cells.toList.drop (k + (v :: r).length) := by
      rw [List.drop_set_of_lt (by omega)]
      congr 1
      simp
      omega
    rw [e1, e2]
    simp
theorem fill_one (row : List Value) (cells : Array Value) (hs : cells.size = row.length) :
    Instr.fill (fun i => some (i * row.length, row.length)) cells [(0, .agg row.toArray)] = some row.toArray := by
  unfold Instr.fill
  simp only [Value.cells, List.size_toArray, Nat.zero_mul, Nat.zero_add]
  rw [if_neg (by simp; omega)]
  unfold Instr.fill
  have := fold_sets row 0 cells (by omega)
  rw [← Array.foldl_toList, Array.toList_zipIdx, this]
  simp [hs]
theorem run_buildSlice_row (w : World) (t e : TypeId) {size bytes : Nat} {z : Value} (T : ElTy P t e size bytes z) (row : List Value) (hl : row.length = size) (hs : size ≤ 16777216) :
    (Instr.buildSlice t 1 #[(0, .agg row.toArray)]).run P w = .ok (.slice (some ⟨w.heap.size, 0, none⟩) 1 1) (w.alloc (.cells row.toArray e)) := by
  obtain ⟨i, hi, hz, hsz, hby⟩ := T.info
  have h0 := T.h0
  refine run_buildSlice w t e 1 _ row.toArray i z T.ht hi hz (by omega) (by omega) ?_
  have := fill_one row ((Array.range (1 * i.size)).map (z.cells[· % z.cells.size]!)) (by simp; omega)
  rw [hl] at this
  rw [hsz]
  rw [hsz] at this
  exact this
/-- A slice literal of one row. -/
theorem wpList_buildSlice_row {ops : Array Oper} {rest : List Oper} {o : Oper} {a : Act} {Q : Exit → Act → World → Prop} (hgd : o.guard = none) (t e : TypeId) (x : Operand) (ho : o.op = .buildSlice t 1 #[(0, x)])
    {size bytes : Nat} {z : Value} (T : ElTy P t e size bytes z) (row : List Value) (hx : a.eval x = .agg row.toArray) (hl : row.length = size) (hs : size ≤ 16777216) (N : Nat) (hN : w.heap.size = N)
    (h : wpList P ops Q rest (a.put o.dst (.slice (some ⟨N, 0, none⟩) 1 1)) (w.alloc (.cells row.toArray e))) : wpList P ops Q (o :: rest) a w :=
  wpList_plain hgd fun _ hK => by
    subst hN
    unfold Oper.wp execOp
    simp only [ho, List.map_toArray, List.map_cons, List.map_nil, hx, Sem.run_bind, run_buildSlice_row w t e T row hl hs, Result.andThen_ok, Sem.run_pure]
    exact hK _ _ h
/-- An exit of a walk at a world that is spelled otherwise. -/
theorem wpList_world {ops : Array Oper} {l : List Oper} {a : Act} {Q : Exit → Act → World → Prop} {w1 : World} (w2 : World) (e : w1 = w2) (h : wpList P ops Q l a w2) : wpList P ops Q l a w1 := e ▸ h
end
end Go.Proofs.Ytomncfiklkhfjaa.Mem
