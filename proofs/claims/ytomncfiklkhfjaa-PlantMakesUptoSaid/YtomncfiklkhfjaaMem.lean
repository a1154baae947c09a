/- Words for memory: bytes that are read at a place, blocks that are known whole. No program's function is walked here. -/
import Derived.Test.YtomncfiklkhfjaaRows
import Derived.WalkKit
import Derived.Lib.Hide
import Derived.Deep.Draws
namespace Go.Proofs.Ytomncfiklkhfjaa
open Go.RowKit
def intOf : Value → Int | .int _ q => q | _ => 0
namespace Mem
/-- A byte's number, kept whole (simp does not take it apart). -/
def V8 (b : UInt8) : Int := (b.toNat : Int)
theorem V8_lt (b : UInt8) : 0 ≤ V8 b ∧ V8 b < 256 := ⟨by unfold V8; omega, by have := b.toNat_lt; unfold V8; omega⟩
theorem V8_inj {a b : UInt8} : V8 a = V8 b ↔ a = b := by
  unfold V8
  rw [Int.ofNat_inj, UInt8.toNat_inj]
theorem V8_ofInt (n : Int) (h0 : 0 ≤ n) (h1 : n < 256) : n = V8 (UInt8.ofNat n.toNat) := by
  unfold V8
  simp [UInt8.toNat_ofNat']
  omega
/-- A byte's value. -/
def B8 (b : UInt8) : Value := .int .u8 (V8 b)
theorem add_block (a : Addr) (n : Nat) : (a.add n).block = a.block := by unfold Addr.add; split <;> rfl
theorem add_off (g o n : Nat) : (Addr.mk g o none).add n = ⟨g, o + n, none⟩ := by
  unfold Addr.add
  by_cases h : n = 0 <;> simp [h]
theorem add_add (a : Addr) (i j : Nat) : (a.add i).add j = a.add (i + j) := by
  unfold Addr.add
  by_cases hi : i = 0 <;> by_cases hj : j = 0 <;> simp [hi, hj, Nat.add_assoc]
/-- The slice at A has these bytes (as many as the list; an empty list asks nothing). -/
def BAt (w : World) (A : Option Addr) (bs : List UInt8) : Prop :=
  0 < bs.length → ∃ ad : Addr, A = some ad ∧ ∀ k, k < bs.length → w.cell? (ad.add k) = some (.int .u8 (V8 (bs.getD k 0)))
section
variable {w w' : World} {A : Option Addr} {a : Addr} {bs : List UInt8}
theorem BAt.nil_ (w : World) (A : Option Addr) : BAt w A [] := fun h => absurd h (by simp)
theorem BAt.keep (h : BAt w A bs) (hk : ∀ (ad : Addr) (k : Nat) (v : Value), A = some ad → k < bs.length → w.cell? (ad.add k) = some v → w'.cell? (ad.add k) = some v) : BAt w' A bs := fun h0 => by
  obtain ⟨ad, e, hc⟩ := h h0
  exact ⟨ad, e, fun k hk' => hk ad k _ e hk' (hc k hk')⟩
theorem cell_lt {w : World} {a : Addr} {v : Value} (h : w.cell? a = some v) : a.block < w.heap.size := by
  rcases Nat.lt_or_ge a.block w.heap.size with h' | h'
  · exact h'
  · simp [World.cell?, Array.getElem?_eq_none h'] at h
theorem BAt.below (h : BAt w A bs) (hb : Below w.heap.size w w') : BAt w' A bs :=
  h.keep fun _ _ _ _ _ hv => (hb.cell (cell_lt hv)).trans hv
theorem BAt.of_block {g : Nat} {cs : Array Value} {t : TypeId} {fz : Nat × Nat} (h : w.heap[g]? = some (.cells cs t fz)) (off : Nat)
    (hb : ∀ k, k < bs.length → cs[off + k]? = some (.int .u8 (V8 (bs.getD k 0)))) : BAt w (some ⟨g, off, none⟩) bs := fun _ =>
  ⟨_, rfl, fun k hk => by rw [add_off]; simp [World.cell?, h, hb k hk]⟩
theorem BAt.of_bytes {g : Nat} {cs : Array Value} {t : TypeId} {fz : Nat × Nat} (h : w.heap[g]? = some (.cells cs t fz)) (hb : cs = (bs.map B8).toArray) : BAt w (some ⟨g, 0, none⟩) bs :=
  BAt.of_block h 0 fun k hk => by subst hb; simp [hk, B8]
theorem BAt.new (w : World) (cs : Array Value) (t : TypeId) (fz : Nat × Nat) (hb : cs = (bs.map B8).toArray) : BAt (w.alloc (.cells cs t fz)) (some ⟨w.heap.size, 0, none⟩) bs :=
  BAt.of_bytes (heap_alloc_new w _) hb
theorem BAt.take (h : BAt w A bs) (k : Nat) : BAt w A (bs.take k) := fun h0 => by
  simp at h0
  obtain ⟨ad, e, hc⟩ := h (by omega)
  refine ⟨ad, e, fun j hj => ?_⟩
  simp at hj
  have hjk : j < k := by omega
  rw [hc j (by omega)]
  simp [List.getD, hjk]
theorem BAt.drop (h : BAt w (some a) bs) (k : Nat) : BAt w (some (a.add k)) (bs.drop k) := fun h0 => by
  simp at h0
  obtain ⟨ad, e, hc⟩ := h (by omega)
  injection e with e; subst e
  refine ⟨_, rfl, fun j hj => ?_⟩
  simp at hj
  rw [add_add, hc (k + j) (by omega)]
  simp [List.getD]
theorem BAt.new_at (w : World) (n : Nat) (cs : Array Value) (t : TypeId) (fz : Nat × Nat) (hn : w.heap.size = n) (hb : cs = (bs.map B8).toArray) : BAt (w.alloc (.cells cs t fz)) (some ⟨n, 0, none⟩) bs := by
  subst hn; exact BAt.new w cs t fz hb
end
theorem below_drewN {B : Nat} {a w : World} (h : Below B a w) (n : Nat) : Below B a (w.drewN n) := ⟨h.os, h.tape, h.output, h.size, h.block⟩
/-- Block g is just these cells of element type t, none frozen. -/
def Blk (w : World) (g : Nat) (t : TypeId) (cs : Array Value) : Prop := w.heap[g]? = some (.cells cs t (0, 0))
section
variable {w w' : World} {g : Nat} {t : TypeId} {cs : Array Value}
theorem Blk.lt (h : Blk w g t cs) : g < w.heap.size := by
  rcases Nat.lt_or_ge g w.heap.size with hlt | hge
  · exact hlt
  · unfold Blk at h; rw [Array.getElem?_eq_none hge] at h; cases h
theorem Blk.cell (h : Blk w g t cs) (i : Nat) : w.cell? ⟨g, i, none⟩ = cs[i]? := by
  unfold Blk at h; simp [World.cell?, h]
theorem Blk.frozen (h : Blk w g t cs) (i : Nat) : w.frozen? ⟨g, i, none⟩ = false := by
  unfold Blk at h; simp [World.frozen?, h]
theorem Blk.new (w : World) (t : TypeId) (cs : Array Value) : Blk (w.alloc (.cells cs t)) w.heap.size t cs := heap_alloc_new w _
theorem Blk.new_at (w : World) (k : Nat) (hk : w.heap.size = k) (t : TypeId) (cs : Array Value) : Blk (w.alloc (.cells cs t)) k t cs := by subst hk; exact heap_alloc_new w _
theorem Blk.drew (h : Blk w g t cs) : Blk w.drew g t cs := h
theorem Blk.drewN (h : Blk w g t cs) (n : Nat) : Blk (w.drewN n) g t cs := h
theorem Blk.alloc (h : Blk w g t cs) (o : Obj) : Blk (w.alloc o) g t cs := (Below.heap_alloc w o g h.lt).trans h
theorem Blk.set_ (h : Blk w g t cs) (i : Nat) (u : Value) : Blk (w.setCell ⟨g, i, none⟩ u) g t (cs.setIfInBounds i u) := by
  unfold Blk at h ⊢; simp [World.setCell, Array.getElem?_modify, h]
theorem Blk.far (h : Blk w g t cs) {p : Addr} (hp : g ≠ p.block) (u : Value) : Blk (w.setCell p u) g t cs := (Below.heap_setCell w p u g hp).trans h
theorem Blk.below {B : Nat} (h : Blk w g t cs) (hb : Below B w w') (hg : g < B) : Blk w' g t cs := (hb.block g hg).trans h
theorem Blk.below_ (h : Blk w g t cs) (hb : Below w.heap.size w w') : Blk w' g t cs := h.below hb h.lt
theorem Blk.grown {row : Option Nat} (h : Blk w g t cs) (hb : w.grownBy w' row) (hg : some g ≠ row) : Blk w' g t cs := (hb.block g h.lt hg).trans h
theorem Blk.ne_ {g' : Nat} {t' : TypeId} {cs' : Array Value} (h : Blk w g t cs) (h' : Blk w g' t' cs') (hne : t ≠ t') : g ≠ g' := by
  rintro rfl
  unfold Blk at h h'
  rw [h] at h'
  injection h' with h'
  injection h' with _ ht
  exact hne ht
end
theorem keep1 {w W0 W1 : World} {p : Addr} {v : Value} (hb : Below W0.heap.size W0 W1) (h : W0.cell? p = some v ∧ Below w.heap.size w W0) : W1.cell? p = some v ∧ Below w.heap.size w W1 :=
  ⟨(hb.cell (cell_lt h.1)).trans h.1, h.2.trans (hb.mono h.2.size)⟩
theorem keep2 {w W0 W1 : World} {p : Addr} {v : Value} (hp : w.cell? p = some v) (hb : Below w.heap.size W0 W1) (h : W0.cell? p = some v ∧ Below w.heap.size w W0) : W1.cell? p = some v ∧ Below w.heap.size w W1 :=
  ⟨(hb.cell (cell_lt hp)).trans h.1, h.2.trans hb⟩
theorem grownBy_setCell (w : World) (p : Addr) (v : Value) (row : Option Nat) (h : row = some p.block) : w.grownBy (w.setCell p v) row :=
  ⟨rfl, rfl, rfl, by simp [World.setCell], fun k _ hne => Below.heap_setCell w p v k (fun e => hne (by rw [h, e]))⟩
theorem grown_set {a w : World} {row : Option Nat} (h : a.grownBy w row) {p : Addr} (hp : row = some p.block ∨ a.heap.size ≤ p.block) (v : Value) : a.grownBy (w.setCell p v) row :=
  ⟨h.os, h.tape, h.output, by simpa [World.setCell] using h.size, fun i hi hne => (Below.heap_setCell w p v i (by
    rintro rfl
    rcases hp with hp | hp
    · exact hne hp.symm
    · omega)).trans (h.block i hi hne)⟩
theorem grown_trans {a b c : World} {row : Option Nat} (h : a.grownBy b row) (k : b.grownBy c row) : a.grownBy c row :=
  ⟨k.os.trans h.os, k.tape.trans h.tape, k.output.trans h.output, Nat.le_trans h.size k.size, fun i hi hne => (k.block i (Nat.lt_of_lt_of_le hi h.size) hne).trans (h.block i hi hne)⟩
theorem grown_alloc {a w : World} {row : Option Nat} (h : a.grownBy w row) (o : Obj) : a.grownBy (w.alloc o) row :=
  ⟨h.os, h.tape, h.output, Nat.le_trans h.size (by simp), fun i hi hne => (Below.heap_alloc w o i (Nat.lt_of_lt_of_le hi h.size)).trans (h.block i hi hne)⟩
theorem grown_drew {a w : World} {row : Option Nat} (h : a.grownBy w row) : a.grownBy w.drew row := ⟨h.os, h.tape, h.output, h.size, h.block⟩
theorem grown_drewN {a w : World} {row : Option Nat} (h : a.grownBy w row) (n : Nat) : a.grownBy (w.drewN n) row := ⟨h.os, h.tape, h.output, h.size, h.block⟩
theorem grown_below {a w w' : World} {row : Option Nat} (h : a.grownBy w row) {B : Nat} (hb : Below B w w') (hB : a.heap.size ≤ B) : a.grownBy w' row :=
  ⟨hb.os.trans h.os, hb.tape.trans h.tape, hb.output.trans h.output, Nat.le_trans h.size hb.size, fun i hi hne => (hb.block i (Nat.lt_of_lt_of_le hi hB)).trans (h.block i hi hne)⟩
theorem grown_of_below {a w : World} (h : Below a.heap.size a w) (row : Option Nat) : a.grownBy w row := ⟨h.os, h.tape, h.output, h.size, fun i hi _ => h.block i hi⟩
theorem below_al {w w' : World} {o : Obj} (hb : Below (w.alloc o).heap.size (w.alloc o) w') : Below w.heap.size w w' :=
  ((Below.refl w.heap.size w).alloc (Nat.le_refl _) o).trans (hb.mono (by simp))
theorem below_al' {w : World} (o : Obj) : Below w.heap.size w (w.alloc o) := (Below.refl _ _).alloc (Nat.le_refl _) o
theorem below_tr {a b c : World} (h : Below a.heap.size a b) (k : Below b.heap.size b c) : Below a.heap.size a c := h.trans (k.mono h.size)
/-- Bytes as a block's cells. -/
def cellsOf (bs : List UInt8) : Array Value := (bs.map B8).toArray
theorem cellsOf_get {bs : List UInt8} {k : Nat} (hk : k < bs.length) : (cellsOf bs)[k]? = some (.int .u8 (V8 (bs.getD k 0))) := by
  simp [cellsOf, hk, B8]
theorem cellsOf_set (bs : List UInt8) (k : Nat) (b : UInt8) : (cellsOf bs).setIfInBounds k (.int .u8 (V8 b)) = cellsOf (bs.set k b) := by
  unfold cellsOf
  rw [List.map_set]
  simp [B8]
section
variable {w w' : World} {g : Nat} {t : TypeId} {bs : List UInt8}
theorem Blk.byte (h : Blk w g t (cellsOf bs)) {k : Nat} (hk : k < bs.length) : w.cell? ⟨g, k, none⟩ = some (.int .u8 (V8 (bs.getD k 0))) := by rw [h.cell, cellsOf_get hk]
theorem Blk.setByte (h : Blk w g t (cellsOf bs)) (k : Nat) (b : UInt8) : Blk (w.setCell ⟨g, k, none⟩ (.int .u8 (V8 b))) g t (cellsOf (bs.set k b)) := by
  have := h.set_ k (.int .u8 (V8 b))
  rwa [cellsOf_set] at this
theorem Blk.bat (h : Blk w g t (cellsOf bs)) : BAt w (some ⟨g, 0, none⟩) bs := BAt.of_bytes h rfl
end
end Mem
end Go.Proofs.Ytomncfiklkhfjaa
