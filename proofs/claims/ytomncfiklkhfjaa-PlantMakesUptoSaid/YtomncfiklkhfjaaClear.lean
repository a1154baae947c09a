/- 'clear' of a part of a block. Over any program. No program's function is walked here. -/
import Derived.Test.YtomncfiklkhfjaaBig
import Derived.Laws.IdiomCopy
namespace Go.Proofs.Ytomncfiklkhfjaa.Mem
open Go Go.RowKit
theorem zeroCells_len (zs : Array Value) (k : Nat) : (Builtin.zeroCells zs k).toList.length = k * zs.size := by simp [Builtin.zeroCells]
theorem zeroCells_one {zs : Array Value} (h : ∀ v ∈ zs.toList, v.oneCell' = true) (k : Nat) : ∀ v ∈ (Builtin.zeroCells zs k).toList, v.oneCell' = true := by
  intro v hv
  unfold Builtin.zeroCells at hv
  simp only [Array.toList_map, List.mem_map, Array.mem_toList_iff, Array.mem_range] at hv
  obtain ⟨i, hi, rfl⟩ := hv
  have h0 : 0 < zs.size := by
    rcases Nat.eq_zero_or_pos zs.size with h0 | h0
    · rw [h0] at hi; omega
    · exact h0
  have hlt := Nat.mod_lt i h0
  rw [getElem!_pos zs (i % zs.size) hlt]
  exact h _ (by simp)
theorem wpList_clear_in {P : Program} {w : World} {ops : Array Oper} {rest : List Oper} {o : Oper} {a : Act} {Q : Exit → Act → World → Prop} (hgd : o.guard = none) (x : Operand) (t : TypeId)
    (ho : o.op = .call { callee := .builtin .clear, args := #[x], argTypes := #[t] }) {e : TypeId} {size bytes : Nat} {z : Value} (T : ElTy P t e size bytes z) (hz1 : ∀ v ∈ z.cells.toList, v.oneCell' = true)
    (g off k c te : Nat) (old : List Value) (hx : a.eval x = .slice (some ⟨g, off, none⟩) k c) (h0 : 0 < k) (hb : Blk w g te old.toArray) (hfit : off + k * size ≤ old.length)
    (h : ∀ w', Blk w' g te (old.take off ++ (Builtin.zeroCells z.cells k).toList ++ old.drop (off + k * size)).toArray → w.grownBy w' (some g) → w'.heap.size = w.heap.size → wpList P ops Q rest (a.put o.dst (.tuple #[])) w') : wpList P ops Q (o :: rest) a w := by
  refine wpList_plain hgd fun _ hK => ?_
  obtain ⟨i, hi, hz, hs, hby⟩ := T.info
  obtain ⟨k', rfl⟩ : ∃ k', k = k' + 1 := ⟨k - 1, by omega⟩
  have hlen := zeroCells_len z.cells (k' + 1)
  rw [T.hz] at hlen
  have hone := zeroCells_one hz1 (k' + 1)
  have hrun := run_storeCells_cells (P := P) g off (Builtin.zeroCells z.cells (k' + 1)).toList 0 w (fun j hj => by rw [hb.cell]; simp; omega) (fun j hj => hb.frozen _) hone
  have hrun2 : (Builtin.clear_ #[t] o.type #[.slice (some ⟨g, off, none⟩) (k' + 1) c]).run P w = .ok (.tuple #[]) (w.setCells g off (Builtin.zeroCells z.cells (k' + 1)).toList) := by
    simp only [Nat.add_zero] at hrun
    simp [Builtin.clear_, run_underlying T.ht, zeroValue, typeInfo, hi, hz, hrun]
  obtain ⟨k1, k2, k3⟩ := setCells_blk (Builtin.zeroCells z.cells (k' + 1)).toList old off w hb (by omega)
  unfold Oper.wp execOp
  simp only [ho, resolve, invoke, builtin, Sem.run_bind, Sem.run_pure, Result.andThen_ok, List.map_toArray, List.map_cons, List.map_nil, hx, hrun2]
  rw [hlen] at k1
  exact hK _ _ (h _ k1 k2 k3)
end Go.Proofs.Ytomncfiklkhfjaa.Mem
