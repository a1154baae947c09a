/- Rows of 32 bytes: loaded and stored whole. -/
import Derived.Test.YtloffgoenaomkaaDoorFold8
import Derived.Test.YtloffgoenaomkaaDoorFold2
import Derived.Test.YtloffgoenaomkaaDoorPlRead
import Derived.Deep.MidRow
namespace Go.Proofs.YtloffgoenaomkaaDoor.Hash
open Go Go.RowKit Mem Pl
theorem hashTy : Tryd.prog.underlying 44 = some (.array 32 5) := Tryd.underlying44
theorem hash_size : (Tryd.prog.info? 44).map (·.size) = some 32 := by kernel_rfl
/-- Thirty-two noughts. -/
def z32 : List UInt8 := List.replicate 32 0
theorem z32_len : z32.length = 32 := rfl
theorem load_hash {w : World} {g : Nat} {t : TypeId} {bs : List UInt8} (h : Blk w g t (cellsOf bs)) (h32 : bs.length = 32) : (loadVar 44 ⟨g, 0, none⟩).run Tryd.prog w = .ok (.agg (cellsOf bs)) w :=
  run_loadVar_mid (P := Tryd.prog) w g 0 44 (bs.map B8) _ (blk_range (cs := bs.map B8) h 0 _ fun j v hv => by rw [Nat.zero_add]; exact hv) hashTy rfl (by rw [hash_size]; simp [h32])
theorem wpList_load_hash {ops : Array Oper} {rest : List Oper} {op : Oper} {a : Act} {w : World} {Q : Exit → Act → World → Prop} (hgd : op.guard = none) (x : Operand) (ho : op.op = .load 44 x)
    (g : Nat) (t : TypeId) (bs : List UInt8) (hx : a.eval x = .pointer (some ⟨g, 0, none⟩)) (hb : Blk w g t (cellsOf bs)) (h32 : bs.length = 32)
    (h : wpList Tryd.prog ops Q rest (a.put op.dst (.agg (cellsOf bs))) w) : wpList Tryd.prog ops Q (op :: rest) a w :=
  wpList_load_mid hgd 44 x ho g 0 hx (bs.map B8) _ (blk_range (cs := bs.map B8) hb 0 _ fun j v hv => by rw [Nat.zero_add]; exact hv) hashTy rfl (by rw [hash_size]; simp [h32]) h
/-- A store of all cells of a block of bytes. -/
theorem wpList_store_bytes {P : Program} {w : World} {ops : Array Oper} {rest : List Oper} {op : Oper} {a : Act} {Q : Exit → Act → World → Prop} (hgd : op.guard = none) (ty : TypeId) (x y : Operand) (ho : op.op = .store ty x y)
    (g : Nat) (te : TypeId) (old new : List UInt8) (hx : a.eval x = .pointer (some ⟨g, 0, none⟩)) (hy : a.eval y = .agg (cellsOf new)) (hb : Blk w g te (cellsOf old)) (hlen : new.length = old.length)
    (hi : (P.info? ty).map (·.size) = some new.length)
    (h : ∀ w', Blk w' g te (cellsOf new) → w.grownBy w' (some g) → w'.heap.size = w.heap.size → wpList P ops Q rest (a.put op.dst undef) w') : wpList P ops Q (op :: rest) a w := by
  have hb' : Blk w g te (old.map B8).toArray := hb
  refine wpList_store_mid hgd ty x y ho g 0 (new.map B8).toArray hx hy (fun j hj => ⟨by rw [Nat.zero_add, hb'.cell]; simp at hj ⊢; omega, hb'.frozen _⟩) (by simpa using hi) (all_oneCell_toArray (by intro v hv; obtain ⟨b, _, rfl⟩ := List.mem_map.1 hv; rfl)) ?_
  obtain ⟨k1, k2, k3⟩ := setCells_blk (new.map B8) (old.map B8) 0 w hb' (by simp; omega)
  have e : (old.map B8).take 0 ++ new.map B8 ++ (old.map B8).drop (0 + (new.map B8).length) = new.map B8 := by
    rw [Nat.zero_add, List.drop_eq_nil_of_le (by simp; omega)]
    simp
  rw [e] at k1
  exact h _ k1 k2 k3
theorem wpList_store_hash {w : World} {ops : Array Oper} {rest : List Oper} {op : Oper} {a : Act} {Q : Exit → Act → World → Prop} (hgd : op.guard = none) (x y : Operand) (ho : op.op = .store 44 x y)
    (g : Nat) (te : TypeId) (old new : List UInt8) (hx : a.eval x = .pointer (some ⟨g, 0, none⟩)) (hy : a.eval y = .agg (cellsOf new)) (hb : Blk w g te (cellsOf old)) (ho32 : old.length = 32) (hn32 : new.length = 32)
    (h : ∀ w', Blk w' g te (cellsOf new) → w.grownBy w' (some g) → w'.heap.size = w.heap.size → wpList Tryd.prog ops Q rest (a.put op.dst undef) w') : wpList Tryd.prog ops Q (op :: rest) a w :=
  wpList_store_bytes hgd _ x y ho g te old new hx hy hb (by omega) (by rw [hash_size, hn32]) h
theorem run_hashAll (g : Nat) (W : World) : (Instr.sliceAt 44 (.pointer (some ⟨g, 0, none⟩)) none none none).run Tryd.prog W = .ok (.slice (some ⟨g, 0, none⟩) 32 32) W := by
  obtain ⟨i, hi, hz, hs, hby⟩ := info_parts Pl.byteTy.hi
  simp [Instr.sliceAt, Instr.sureAddr, run_underlying hashTy, Instr.sliceBounds, sizeOf, typeInfo, hi, add_off]
theorem run_allocHash (w : World) : (Instr.alloc 44 true (.tuple #[])).run Tryd.prog w = .ok (.pointer (some ⟨w.heap.size, 0, none⟩)) (w.alloc (.cells (cellsOf z32) 44)) := by kernel_rfl
end Go.Proofs.YtloffgoenaomkaaDoor.Hash
