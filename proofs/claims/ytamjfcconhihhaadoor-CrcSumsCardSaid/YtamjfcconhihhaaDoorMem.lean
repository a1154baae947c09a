/- Words for memory: bytes that are read at a place, blocks that are known whole. No program's function is walked here. -/
import Derived.Test.YtamjfcconhihhaaDoorRows
import Derived.WalkKit
import Derived.Lib.Hide
import Derived.Deep.Draws
namespace Go.Proofs.YtamjfcconhihhaaDoor
open Go.RowKit
def intOf : Value → Int | .int _ q => q | _ => 0
namespace Mem
/-- A byte's value. -/
def B8 (b : UInt8) : Value := .int .u8 (b.toNat : Int)
theorem add_block (a : Addr) (n : Nat) : (a.add n).block = a.block := by unfold Addr.add; split <;> rfl
theorem add_off (g o n : Nat) : (Addr.mk g o none).add n = ⟨g, o + n, none⟩ := by
  unfold Addr.add
  by_cases h : n = 0 <;> simp [h]
theorem add_add (a : Addr) (i j : Nat) : (a.add i).add j = a.add (i + j) := by
  unfold Addr.add
  by_cases hi : i = 0 <;> by_cases hj : j = 0 <;> simp [hi, hj, Nat.add_assoc]
/-- The slice at A has these bytes (as many as the list; an empty list asks nothing). -/
def BAt (w : World) (A : Option Addr) (bs : List UInt8) : Prop :=
  0 < bs.length → ∃ ad : Addr, A = some ad ∧ ∀ k, k < bs.length → w.cell? (ad.add k) = some (.int .u8 (bs.getD k 0).toNat)
section
variable {w w' : World} {A : Option Addr} {bs : List UInt8}
theorem BAt.nil_ (w : World) (A : Option Addr) : BAt w A [] := fun h => absurd h (by simp)
theorem BAt.keep (h : BAt w A bs) (hk : ∀ (ad : Addr) (k : Nat) (v : Value), A = some ad → k < bs.length → w.cell? (ad.add k) = some v → w'.cell? (ad.add k) = some v) : BAt w' A bs := fun h0 => by
  obtain ⟨ad, e, hc⟩ := h h0
  exact ⟨ad, e, fun k hk' => hk ad k _ e hk' (hc k hk')⟩
theorem cell_lt {w : World} {a : Addr} {v : Value} (h : w.cell? a = some v) : a.block < w.heap.size := by
  rcases Nat.lt_or_ge a.block w.heap.size with h' | h'
  · exact h'
  · simp [World.cell?, Array.getElem?_eq_none h'] at h
theorem BAt.below (h : BAt w A bs) (hb : Below w.heap.size w w') : BAt w' A bs :=
  h.keep fun _ _ _ _ _ hv => (hb.cell (cell_lt hv)).trans hv
theorem BAt.of_block {g : Nat} {cs : Array Value} {t : TypeId} {fz : Nat × Nat} (h : w.heap[g]? = some (.cells cs t fz)) (off : Nat)
    (hb : ∀ k, k < bs.length → cs[off + k]? = some (.int .u8 (bs.getD k 0).toNat)) : BAt w (some ⟨g, off, none⟩) bs := fun _ =>
  ⟨_, rfl, fun k hk => by rw [add_off]; simp [World.cell?, h, hb k hk]⟩
theorem BAt.of_bytes {g : Nat} {cs : Array Value} {t : TypeId} {fz : Nat × Nat} (h : w.heap[g]? = some (.cells cs t fz)) (hb : cs = (bs.map B8).toArray) : BAt w (some ⟨g, 0, none⟩) bs :=
  BAt.of_block h 0 fun k hk => by subst hb; simp [hk, B8]
theorem BAt.new (w : World) (cs : Array Value) (t : TypeId) (fz : Nat × Nat) (hb : cs = (bs.map B8).toArray) : BAt (w.alloc (.cells cs t fz)) (some ⟨w.heap.size, 0, none⟩) bs :=
  BAt.of_bytes (heap_alloc_new w _) hb
theorem BAt.new_at (w : World) (n : Nat) (cs : Array Value) (t : TypeId) (fz : Nat × Nat) (hn : w.heap.size = n) (hb : cs = (bs.map B8).toArray) : BAt (w.alloc (.cells cs t fz)) (some ⟨n, 0, none⟩) bs := by
  subst hn; exact BAt.new w cs t fz hb
end
end Mem
end Go.Proofs.YtamjfcconhihhaaDoor
