/- Words for memory: bytes that are read at a place, blocks that are known whole. No program's function is walked here. -/
import Derived.Test.YtloffgoenaomkaaDoorRows
import Derived.WalkKit
import Derived.Lib.Hide
import Derived.Deep.Draws
import Derived.Maps.AppendAt
import Derived.Laws.CopyRow
import Derived.Deep.MidRow
import Derived.Maps.OwnOps
import Derived.Maps.RangeWalk
namespace Go.Proofs.YtloffgoenaomkaaDoor
open Go.RowKit
def intOf : Value → Int | .int _ q => q | _ => 0
namespace Mem
/-- A byte's number, kept whole (simp does not take it apart). -/
def V8 (b : UInt8) : Int := (b.toNat : Int)
theorem V8_lt (b : UInt8) : 0 ≤ V8 b ∧ V8 b < 256 := ⟨by unfold V8; omega, by have := b.toNat_lt; unfold V8; omega⟩
theorem V8_inj {a b : UInt8} : V8 a = V8 b ↔ a = b := by
  unfold V8
  rw [Int.ofNat_inj, UInt8.toNat_inj]
theorem V8_ofInt (n : Int) (h0 : 0 ≤ n) (h1 : n < 256) : n = V8 (UInt8.ofNat n.toNat) := by
  unfold V8
  simp [UInt8.toNat_ofNat']
  omega
/-- A byte's value. -/
def B8 (b : UInt8) : Value := .int .u8 (V8 b)
theorem add_block (a : Addr) (n : Nat) : (a.add n).block = a.block := by unfold Addr.add; split <;> rfl
theorem add_off (g o n : Nat) : (Addr.mk g o none).add n = ⟨g, o + n, none⟩ := by
  unfold Addr.add
  by_cases h : n = 0 <;> simp [h]
theorem add_add (a : Addr) (i j : Nat) : (a.add i).add j = a.add (i + j) := by
  unfold Addr.add
  by_cases hi : i = 0 <;> by_cases hj : j = 0 <;> simp [hi, hj, Nat.add_assoc]
/-- The slice at A has these bytes (as many as the list; an empty list asks nothing). -/
def BAt (w : World) (A : Option Addr) (bs : List UInt8) : Prop :=
  0 < bs.length → ∃ ad : Addr, A = some ad ∧ ∀ k, k < bs.length → w.cell? (ad.add k) = some (.int .u8 (V8 (bs.getD k 0)))
section
variable {w w' : World} {A : Option Addr} {a : Addr} {bs : List UInt8}
theorem BAt.nil_ (w : World) (A : Option Addr) : BAt w A [] := fun h => absurd h (by simp)
theorem BAt.keep (h : BAt w A bs) (hk : ∀ (ad : Addr) (k : Nat) (v : Value), A = some ad → k < bs.length → w.cell? (ad.add k) = some v → w'.cell? (ad.add k) = some v) : BAt w' A bs := fun h0 => by
  obtain ⟨ad, e, hc⟩ := h h0
  exact ⟨ad, e, fun k hk' => hk ad k _ e hk' (hc k hk')⟩
theorem cell_lt {w : World} {a : Addr} {v : Value} (h : w.cell? a = some v) : a.block < w.heap.size := by
  rcases Nat.lt_or_ge a.block w.heap.size with h' | h'
  · exact h'
  · simp [World.cell?, Array.getElem?_eq_none h'] at h
theorem BAt.below (h : BAt w A bs) (hb : Below w.heap.size w w') : BAt w' A bs :=
  h.keep fun _ _ _ _ _ hv => (hb.cell (cell_lt hv)).trans hv
theorem BAt.of_block {g : Nat} {cs : Array Value} {t : TypeId} {fz : Nat × Nat} (h : w.heap[g]? = some (.cells cs t fz)) (off : Nat)
    (hb : ∀ k, k < bs.length → cs[off + k]? = some (.int .u8 (V8 (bs.getD k 0)))) : BAt w (some ⟨g, off, none⟩) bs := fun _ =>
  ⟨_, rfl, fun k hk => by rw [add_off]; simp [World.cell?, h, hb k hk]⟩
theorem BAt.of_bytes {g : Nat} {cs : Array Value} {t : TypeId} {fz : Nat × Nat} (h : w.heap[g]? = some (.cells cs t fz)) (hb : cs = (bs.map B8).toArray) : BAt w (some ⟨g, 0, none⟩) bs :=
  BAt.of_block h 0 fun k hk => by subst hb; simp [hk, B8]
theorem BAt.new (w : World) (cs : Array Value) (t : TypeId) (fz : Nat × Nat) (hb : cs = (bs.map B8).toArray) : BAt (w.alloc (.cells cs t fz)) (some ⟨w.heap.size, 0, none⟩) bs :=
  BAt.of_bytes (heap_alloc_new w _) hb
theorem BAt.take (h : BAt w A bs) (k : Nat) : BAt w A (bs.take k) := fun h0 => by
  simp at h0
  obtain ⟨ad, e, hc⟩ := h (by omega)
  refine ⟨ad, e, fun j hj => ?_⟩
  simp at hj
  have hjk : j < k := by omega
  rw [hc j (by omega)]
  simp [List.getD, hjk]
theorem BAt.drop (h : BAt w (some a) bs) (k : Nat) : BAt w (some (a.add k)) (bs.drop k) := fun h0 => by
  simp at h0
  obtain ⟨ad, e, hc⟩ := h (by omega)
  injection e with e; subst e
  refine ⟨_, rfl, fun j hj => ?_⟩
  simp at hj
  rw [add_add, hc (k + j) (by omega)]
  simp [List.getD]
theorem BAt.new_at (w : World) (n : Nat) (cs : Array Value) (t : TypeId) (fz : Nat × Nat) (hn : w.heap.size = n) (hb : cs = (bs.map B8).toArray) : BAt (w.alloc (.cells cs t fz)) (some ⟨n, 0, none⟩) bs := by
  subst hn; exact BAt.new w cs t fz hb
end
theorem below_drewN {B : Nat} {a w : World} (h : Below B a w) (n : Nat) : Below B a (w.drewN n) := ⟨h.os, h.tape, h.output, h.size, h.block⟩
/-- Block g is just these cells of element type t, none frozen. -/
def Blk (w : World) (g : Nat) (t : TypeId) (cs : Array Value) : Prop := w.heap[g]? = some (.cells cs t (0, 0))
section
variable {w w' : World} {g : Nat} {t : TypeId} {cs : Array Value}
theorem Blk.lt (h : Blk w g t cs) : g < w.heap.size := by
  rcases Nat.lt_or_ge g w.heap.size with hlt | hge
  · exact hlt
  · unfold Blk at h; rw [Array.getElem?_eq_none hge] at h; cases h
theorem Blk.cell (h : Blk w g t cs) (i : Nat) : w.cell? ⟨g, i, none⟩ = cs[i]? := by
  unfold Blk at h; simp [World.cell?, h]
theorem Blk.frozen (h : Blk w g t cs) (i : Nat) : w.frozen? ⟨g, i, none⟩ = false := by
  unfold Blk at h; simp [World.frozen?, h]
theorem Blk.new (w : World) (t : TypeId) (cs : Array Value) : Blk (w.alloc (.cells cs t)) w.heap.size t cs := heap_alloc_new w _
theorem Blk.new_at (w : World) (k : Nat) (hk : w.heap.size = k) (t : TypeId) (cs : Array Value) : Blk (w.alloc (.cells cs t)) k t cs := by subst hk; exact heap_alloc_new w _
theorem Blk.drew (h : Blk w g t cs) : Blk w.drew g t cs := h
theorem Blk.drewN (h : Blk w g t cs) (n : Nat) : Blk (w.drewN n) g t cs := h
theorem Blk.alloc (h : Blk w g t cs) (o : Obj) : Blk (w.alloc o) g t cs := (Below.heap_alloc w o g h.lt).trans h
theorem Blk.set_ (h : Blk w g t cs) (i : Nat) (u : Value) : Blk (w.setCell ⟨g, i, none⟩ u) g t (cs.setIfInBounds i u) := by
  unfold Blk at h ⊢; simp [World.setCell, Array.getElem?_modify, h]
theorem Blk.far (h : Blk w g t cs) {p : Addr} (hp : g ≠ p.block) (u : Value) : Blk (w.setCell p u) g t cs := (Below.heap_setCell w p u g hp).trans h
theorem Blk.below {B : Nat} (h : Blk w g t cs) (hb : Below B w w') (hg : g < B) : Blk w' g t cs := (hb.block g hg).trans h
theorem Blk.below_ (h : Blk w g t cs) (hb : Below w.heap.size w w') : Blk w' g t cs := h.below hb h.lt
theorem Blk.grown {row : Option Nat} (h : Blk w g t cs) (hb : w.grownBy w' row) (hg : some g ≠ row) : Blk w' g t cs := (hb.block g h.lt hg).trans h
theorem Blk.ne_ {g' : Nat} {t' : TypeId} {cs' : Array Value} (h : Blk w g t cs) (h' : Blk w g' t' cs') (hne : t ≠ t') : g ≠ g' := by
  rintro rfl
  unfold Blk at h h'
  rw [h] at h'
  injection h' with h'
  injection h' with _ ht
  exact hne ht
end
theorem keep1 {w W0 W1 : World} {p : Addr} {v : Value} (hb : Below W0.heap.size W0 W1) (h : W0.cell? p = some v ∧ Below w.heap.size w W0) : W1.cell? p = some v ∧ Below w.heap.size w W1 :=
  ⟨(hb.cell (cell_lt h.1)).trans h.1, h.2.trans (hb.mono h.2.size)⟩
theorem keep2 {w W0 W1 : World} {p : Addr} {v : Value} (hp : w.cell? p = some v) (hb : Below w.heap.size W0 W1) (h : W0.cell? p = some v ∧ Below w.heap.size w W0) : W1.cell? p = some v ∧ Below w.heap.size w W1 :=
  ⟨(hb.cell (cell_lt hp)).trans h.1, h.2.trans hb⟩
theorem grownBy_setCell (w : World) (p : Addr) (v : Value) (row : Option Nat) (h : row = some p.block) : w.grownBy (w.setCell p v) row :=
  ⟨rfl, rfl, rfl, by simp [World.setCell], fun k _ hne => Below.heap_setCell w p v k (fun e => hne (by rw [h, e]))⟩
theorem grown_set {a w : World} {row : Option Nat} (h : a.grownBy w row) {p : Addr} (hp : row = some p.block ∨ a.heap.size ≤ p.block) (v : Value) : a.grownBy (w.setCell p v) row :=
  ⟨h.os, h.tape, h.output, by simpa [World.setCell] using h.size, fun i hi hne => (Below.heap_setCell w p v i (by
    rintro rfl
    rcases hp with hp | hp
    · exact hne hp.symm
    · omega)).trans (h.block i hi hne)⟩
theorem grown_trans {a b c : World} {row : Option Nat} (h : a.grownBy b row) (k : b.grownBy c row) : a.grownBy c row :=
  ⟨k.os.trans h.os, k.tape.trans h.tape, k.output.trans h.output, Nat.le_trans h.size k.size, fun i hi hne => (k.block i (Nat.lt_of_lt_of_le hi h.size) hne).trans (h.block i hi hne)⟩
theorem grown_alloc {a w : World} {row : Option Nat} (h : a.grownBy w row) (o : Obj) : a.grownBy (w.alloc o) row :=
  ⟨h.os, h.tape, h.output, Nat.le_trans h.size (by simp), fun i hi hne => (Below.heap_alloc w o i (Nat.lt_of_lt_of_le hi h.size)).trans (h.block i hi hne)⟩
theorem grown_drew {a w : World} {row : Option Nat} (h : a.grownBy w row) : a.grownBy w.drew row := ⟨h.os, h.tape, h.output, h.size, h.block⟩
theorem grown_drewN {a w : World} {row : Option Nat} (h : a.grownBy w row) (n : Nat) : a.grownBy (w.drewN n) row := ⟨h.os, h.tape, h.output, h.size, h.block⟩
theorem grown_below {a w w' : World} {row : Option Nat} (h : a.grownBy w row) {B : Nat} (hb : Below B w w') (hB : a.heap.size ≤ B) : a.grownBy w' row :=
  ⟨hb.os.trans h.os, hb.tape.trans h.tape, hb.output.trans h.output, Nat.le_trans h.size hb.size, fun i hi hne => (hb.block i (Nat.lt_of_lt_of_le hi hB)).trans (h.block i hi hne)⟩
theorem grown_of_below {a w : World} (h : Below a.heap.size a w) (row : Option Nat) : a.grownBy w row := ⟨h.os, h.tape, h.output, h.size, fun i hi _ => h.block i hi⟩
theorem below_al {w w' : World} {o : Obj} (hb : Below (w.alloc o).heap.size (w.alloc o) w') : Below w.heap.size w w' :=
  ((Below.refl w.heap.size w).alloc (Nat.le_refl _) o).trans (hb.mono (by simp))
theorem below_al' {w : World} (o : Obj) : Below w.heap.size w (w.alloc o) := (Below.refl _ _).alloc (Nat.le_refl _) o
theorem below_tr {a b c : World} (h : Below a.heap.size a b) (k : Below b.heap.size b c) : Below a.heap.size a c := h.trans (k.mono h.size)
/-- Bytes as a block's cells. -/
def cellsOf (bs : List UInt8) : Array Value := (bs.map B8).toArray
theorem cellsOf_get {bs : List UInt8} {k : Nat} (hk : k < bs.length) : (cellsOf bs)[k]? = some (.int .u8 (V8 (bs.getD k 0))) := by
  simp [cellsOf, hk, B8]
theorem cellsOf_set (bs : List UInt8) (k : Nat) (b : UInt8) : (cellsOf bs).setIfInBounds k (.int .u8 (V8 b)) = cellsOf (bs.set k b) := by
  unfold cellsOf
  rw [List.map_set]
  simp [B8]
section
variable {w w' : World} {g : Nat} {t : TypeId} {bs : List UInt8}
theorem Blk.byte (h : Blk w g t (cellsOf bs)) {k : Nat} (hk : k < bs.length) : w.cell? ⟨g, k, none⟩ = some (.int .u8 (V8 (bs.getD k 0))) := by rw [h.cell, cellsOf_get hk]
theorem Blk.setByte (h : Blk w g t (cellsOf bs)) (k : Nat) (b : UInt8) : Blk (w.setCell ⟨g, k, none⟩ (.int .u8 (V8 b))) g t (cellsOf (bs.set k b)) := by
  have := h.set_ k (.int .u8 (V8 b))
  rwa [cellsOf_set] at this
theorem Blk.bat (h : Blk w g t (cellsOf bs)) : BAt w (some ⟨g, 0, none⟩) bs := BAt.of_bytes h rfl
end
end Mem
end Go.Proofs.YtloffgoenaomkaaDoor
/- Slices of bytes that the call itself makes: append, make, a store, a cut, in terms of lists of bytes. Over any program. No program's function is walked here. -/
namespace Go.Proofs.YtloffgoenaomkaaDoor.Mem
open Go.RowKit
/-- What a program's tables say of a slice of bytes. -/
structure ByteTy (P : Program) (t e : TypeId) : Prop where
  ht : P.underlying t = some (.slice e)
  he : P.underlying e = some (.int .u8)
  hi : (P.info? e).map (fun i => (i.zero, i.size, i.bytes)) = some (some (.int .u8 0), 1, 1)
theorem ByteTy.info {P : Program} {t e : TypeId} (T : ByteTy P t e) : ∃ i, P.info? e = some i ∧ i.zero = some (.int .u8 0) ∧ i.size = 1 ∧ i.bytes = 1 := info_parts T.hi
/-- The slice A of n cells is the call's own and has these bytes. -/
def Own (w : World) (base : Nat) (e : TypeId) (A : Option Addr) (n c : Nat) (bs : List UInt8) : Prop := w.ownsRow base e 1 (.slice A n c) n (bs.map B8)
section
variable {w w' : World} {base : Nat} {e : TypeId} {A : Option Addr} {n c n' : Nat} {bs : List UInt8}
theorem Own.len (h : Own w base e A n c bs) : bs.length = n := by have := h.1; simpa using this
theorem Own.cap_le (h : Own w base e A n c bs) : n ≤ c ∧ c ≤ maxLen := by
  rcases h.2 with ⟨h, rfl⟩ | ⟨g, cap, cur, h, _, _, hn, hm, _⟩
  · injection h with _ _ h3; subst h3; exact ⟨Nat.le_refl _, by unfold maxLen; omega⟩
  · injection h with _ _ h3; subst h3; exact ⟨hn, hm⟩
theorem Own.form (h : Own w base e A n c bs) : (A = none ∧ n = 0 ∧ c = 0) ∨ ∃ g, A = some ⟨g, 0, none⟩ ∧ base ≤ g ∧ g < w.heap.size := by
  rcases h.2 with ⟨h, rfl⟩ | ⟨g, cap, cur, h, hb, hh, hn, hm, _⟩
  · injection h with h1 _ h3; exact .inl ⟨h1, rfl, h3⟩
  · injection h with h1 _ h3
    refine .inr ⟨g, h1, hb, ?_⟩
    rcases Nat.lt_or_ge g w.heap.size with h' | h'
    · exact h'
    · rw [Array.getElem?_eq_none h'] at hh; cases hh
theorem Own.block (h : Own w base e A n c bs) : (Value.slice A n c).ownBlock = A.map (·.block) := by cases A <;> rfl
theorem Own.bat (h : Own w base e A n c bs) : BAt w A bs := fun h0 => by
  rcases h.form with ⟨rfl, hn, _⟩ | ⟨g, rfl, _, _⟩
  · have := h.len; omega
  · refine ⟨_, rfl, fun k hk => ?_⟩
    have := h.cells (g := g) rfl k (B8 bs[k]) (by simp [hk])
    rw [this]
    simp [B8, List.getD, hk]
theorem Own.kept {row : Option Nat} (h : Own w base e A n c bs) (hg : w.grownBy w' row) (hne : A = none ∨ A.map (·.block) ≠ row) : Own w' base e A n c bs :=
  World.ownsRow.kept h hg (by rcases hne with rfl | hne; exact .inl rfl; exact .inr (by rw [h.block]; exact hne))
theorem Own.below (h : Own w base e A n c bs) (hb : Below w.heap.size w w') : Own w' base e A n c bs := by
  refine ⟨h.1, ?_⟩
  rcases h.2 with h1 | ⟨g, cap, cur, h1, h2, hh, h3⟩
  · exact .inl h1
  · refine .inr ⟨g, cap, cur, h1, h2, ?_, h3⟩
    rw [hb.block g, hh]
    rcases Nat.lt_or_ge g w.heap.size with h' | h'
    · exact h'
    · rw [Array.getElem?_eq_none h'] at hh; cases hh
theorem Own.alloc (h : Own w base e A n c bs) (o : Obj) : Own (w.alloc o) base e A n c bs := World.ownsRow.alloc h o
theorem Own.drew (h : Own w base e A n c bs) : Own w.drew base e A n c bs := h
theorem Own.mono {base' : Nat} (h : Own w base e A n c bs) (hb : base' ≤ base) : Own w base' e A n c bs := by
  refine ⟨h.1, ?_⟩
  rcases h.2 with h1 | ⟨g, cap, cur, h1, h2, h3⟩
  · exact .inl h1
  · exact .inr ⟨g, cap, cur, h1, by omega, h3⟩
theorem Own.nil_ (w : World) (base : Nat) (e : TypeId) : Own w base e none 0 0 [] := World.ownsRow_nil w base e 1
/-- A row just laid: '[]byte{..}'. -/
theorem Own.new (w : World) (k : Nat) (cs : Array Value) (hw : w.heap.size = k) (hb : base ≤ k) (hbs : cs = (bs.map B8).toArray) (hn : bs.length = n) (hm : n ≤ maxLen) :
    Own (w.alloc (.cells cs e)) base e (some ⟨k, 0, none⟩) n n bs := by
  subst hw hbs hn
  refine ⟨by simp, .inr ⟨_, bs.length, _, rfl, hb, heap_alloc_new w _, Nat.le_refl _, hm, by simp, by simpa using List.take_of_length_le (by simp)⟩⟩
theorem Own.at_ (h : Own w base e (some ⟨n', 0, none⟩) n c bs) {k : Nat} (hk : k < n) : w.cell? ⟨n', k, none⟩ = some (.int .u8 (V8 (bs.getD k 0))) := by
  have hl := h.len
  obtain ⟨ad, e, hc⟩ := h.bat (by omega)
  injection e with e; subst e
  have := hc k (by omega)
  rw [add_off] at this
  simpa using this
theorem Own.free (h : Own w base e (some ⟨n', 0, none⟩) n c bs) (k : Nat) : w.frozen? ⟨n', k, none⟩ = false := World.ownsRow.frozenAt h k
theorem Own.setByte (h : Own w base e (some ⟨n', 0, none⟩) n c bs) (k : Nat) (b : UInt8) : Own (w.setCell ⟨n', k, none⟩ (.int .u8 (V8 b))) base e (some ⟨n', 0, none⟩) n c (bs.set k b) := by
  have := World.ownsRow.stored h k (.int .u8 (V8 b))
  unfold Own
  rw [List.map_set]
  exact this.1
theorem Own.of_blk {g k : Nat} (h : Blk w g e (cellsOf bs)) (hb : base ≤ g) (hn : bs.length = k) (hm : k ≤ maxLen) : Own w base e (some ⟨g, 0, none⟩) k k bs := by
  subst hn
  exact ⟨by simp, .inr ⟨g, bs.length, _, rfl, hb, h, Nat.le_refl _, hm, by simp [cellsOf], by simpa [cellsOf] using List.take_of_length_le (by simp)⟩⟩
theorem Own.row_ge (h : Own w base e A n c bs) : ∀ k, (Value.slice A n c).ownBlock = some k → base ≤ k := by
  intro k hk
  rcases h.form with ⟨rfl, _, _⟩ | ⟨g, rfl, hg, _⟩
  · cases hk
  · injection hk with hk; subst hk; exact hg
theorem Own.row_lt (h : Own w base e A n c bs) : ∀ k, (Value.slice A n c).ownBlock = some k → k < w.heap.size := by
  intro k hk
  rcases h.form with ⟨rfl, _, _⟩ | ⟨g, rfl, _, hg⟩
  · cases hk
  · injection hk with hk; subst hk; exact hg
/-- Two owned slices, the one there before the other was made. -/
theorem Own.apart {w2 : World} {b2 n2 c2 : Nat} {A2 : Option Addr} {bs2 : List UInt8} (h1 : Own w base e A n c bs) (h2 : Own w2 b2 e A2 n2 c2 bs2) (hle : w.heap.size ≤ b2) :
    A = none ∨ A.map (·.block) ≠ (Value.slice A2 n2 c2).ownBlock := by
  rcases h1.form with ⟨h, _, _⟩ | ⟨g, rfl, _, hg⟩
  · exact .inl h
  · right
    intro he
    have := h2.row_ge g (by rw [← he]; rfl)
    omega
theorem Own.apart' {w2 : World} {b2 n2 c2 : Nat} {A2 : Option Addr} {bs2 : List UInt8} (h1 : Own w base e A n c bs) (h2 : Own w2 b2 e A2 n2 c2 bs2) (hle : w.heap.size ≤ b2) :
    A2 = none ∨ A2.map (·.block) ≠ (Value.slice A n c).ownBlock := by
  rcases h2.form with ⟨h, _, _⟩ | ⟨g, rfl, hg, _⟩
  · exact .inl h
  · right
    intro he
    have := h1.row_lt g (by rw [← he]; rfl)
    omega
theorem World_grown_below {w w' : World} {row : Option Nat} (hg : w.grownBy w' row) (hb : base ≤ w.heap.size) (hr : ∀ k, row = some k → base ≤ k) : Below base w w' := (Below.refl _ _).grown hg hb hr
end
section
variable {P : Program} {w : World}
theorem run_append_bytes (base : Nat) (t ty e : TypeId) (T : ByteTy P t e) (A : Option Addr) (n c : Nat) (xs : List UInt8) (hown : Own w base e A n c xs)
    (B : Option Addr) (m d : Nat) (bs : List UInt8) (hb : BAt w B bs) (hm : bs.length = m) (N : Nat) (hN : n + m = N) (hbytes : N ≤ 140737488355328) (hbase : base ≤ w.heap.size) :
    ∃ A' c' w', (Builtin.append_ #[t, t] ty #[.slice A n c, .slice B m d]).run P w = .ok (.slice A' N c') w' ∧ Own w' base e A' N c' (xs ++ bs) ∧ w.grownBy w' (Value.slice A n c).ownBlock ∧
      (A' = A ∨ A' = some ⟨w.heap.size, 0, none⟩) := by
  subst hN
  obtain ⟨i, hi, hz, hs, hby⟩ := T.info
  rcases B with _ | ad
  · have hm0 : m = 0 := by
      rcases Nat.eq_zero_or_pos m with h0 | h0
      · exact h0
      · obtain ⟨ad, h, _⟩ := hb (by omega)
        cases h
    subst hm0
    have hbs : bs = [] := List.eq_nil_of_length_eq_zero hm
    subst hbs
    refine ⟨A, c, w, ?_, by simpa using hown, World.grownBy.refl w _, .inl rfl⟩
    rcases hown.2 with ⟨h, rfl⟩ | ⟨g, cap, cur, h, _, _, hnc, _⟩
    · injection h with h1 _ h3
      subst h1 h3
      simp [Builtin.append_, run_underlying T.ht, sizeOf, typeInfo, hi, Builtin.lenOf, Builtin.firstCells]
    · injection h with h1 _ h3
      subst h1 h3
      simp [Builtin.append_, run_underlying T.ht, sizeOf, typeInfo, hi, Builtin.lenOf, Builtin.firstCells, hnc, storeCells]
  · have hcells : ∀ j u, (bs.map B8)[j]? = some u → w.cell? (ad.add j) = some u := by
      intro j u hu
      have hj : j < bs.length := by
        have := (List.getElem?_eq_some_iff.1 hu).1; simpa using this
      obtain ⟨ad', h, hc⟩ := hb (by omega)
      injection h with h; subst h
      rw [hc j hj]
      simp [hj, B8] at hu ⊢
      simpa [hj] using hu
    obtain ⟨v', w', hrun, h2, h3, _, h5⟩ := run_append_own_at (P := P) w base t ty e i (.int .u8 0) 1 1 T.ht hi hz hs hby rfl (by omega) (.slice A n c) n (xs.map B8) hown ad m d (bs.map B8) (by simpa using hm) hcells
      (by intro u hu; obtain ⟨b, _, rfl⟩ := List.mem_map.1 hu; rfl) (by unfold maxLen; omega) (by omega) hbase
    have hf := h2.2
    have hA : ∃ A' c', v' = .slice A' (n + m) c' := by
      rcases hf with ⟨h, h0⟩ | ⟨g, cap, cur, h, _⟩
      · exact ⟨none, 0, by rw [h, h0]⟩
      · exact ⟨_, _, h⟩
    obtain ⟨A', c', rfl⟩ := hA
    have hO : Own w' base e A' (n + m) c' (xs ++ bs) := by unfold Own; rw [List.map_append]; exact h2
    refine ⟨A', c', w', hrun, hO, h3, ?_⟩
    rcases h5 with h5 | h5
    · left
      rcases hO.form with ⟨rfl, _, _⟩ | ⟨g, rfl, _, _⟩ <;> rcases hown.form with ⟨rfl, _, _⟩ | ⟨g', rfl, _, _⟩ <;> simp [Value.ownBlock] at h5 ⊢
      exact h5
    · right
      rcases hO.form with ⟨rfl, _, _⟩ | ⟨g, rfl, _, _⟩ <;> simp [Value.ownBlock] at h5 ⊢
      exact h5
theorem wp_append_bytes {o : Oper} {a : Act} {K : Act → World → Prop} {Q : Exit → Act → World → Prop} (s x : Operand) (t : TypeId)
    (ho : o.op = .call { callee := .builtin .append, args := #[s, x], argTypes := #[t, t] }) (base : Nat) (e : TypeId) (T : ByteTy P t e)
    (A : Option Addr) (n c : Nat) (xs : List UInt8) (hs : a.eval s = .slice A n c) (hown : Own w base e A n c xs)
    (B : Option Addr) (m d : Nat) (bs : List UInt8) (hx : a.eval x = .slice B m d) (hb : BAt w B bs) (hm : bs.length = m) (N : Nat) (hN : n + m = N) (hbytes : N ≤ 140737488355328) (hbase : base ≤ w.heap.size)
    (h : ∀ A' c' w', Own w' base e A' N c' (xs ++ bs) → w.grownBy w' (Value.slice A n c).ownBlock → Below base w w' → (A' = A ∨ A' = some ⟨w.heap.size, 0, none⟩) → K (a.put o.dst (.slice A' N c')) w') : o.wp P a w K Q := by
  obtain ⟨A', c', w', hrun, h2, h3, h4⟩ := run_append_bytes (P := P) base t o.type e T A n c xs hown B m d bs hb hm N hN hbytes hbase
  unfold Oper.wp execOp
  simp only [ho, resolve, invoke, builtin, Sem.run_bind, Sem.run_pure, Result.andThen_ok, List.map_toArray, List.map_cons, List.map_nil, hs, hx, hrun]
  exact h A' c' w' h2 h3 (World_grown_below h3 hbase hown.row_ge) h4
theorem wpList_append_bytes {ops : Array Oper} {rest : List Oper} {o : Oper} {a : Act} {Q : Exit → Act → World → Prop} (hgd : o.guard = none) (s x : Operand) (t : TypeId)
    (ho : o.op = .call { callee := .builtin .append, args := #[s, x], argTypes := #[t, t] }) (base : Nat) (e : TypeId) (T : ByteTy P t e)
    (A : Option Addr) (n c : Nat) (xs : List UInt8) (hs : a.eval s = .slice A n c) (hown : Own w base e A n c xs)
    (B : Option Addr) (m d : Nat) (bs : List UInt8) (hx : a.eval x = .slice B m d) (hb : BAt w B bs) (hm : bs.length = m) (N : Nat) (hN : n + m = N) (hbytes : N ≤ 140737488355328) (hbase : base ≤ w.heap.size)
    (h : ∀ A' c' w', Own w' base e A' N c' (xs ++ bs) → w.grownBy w' (Value.slice A n c).ownBlock → Below base w w' → (A' = A ∨ A' = some ⟨w.heap.size, 0, none⟩) → wpList P ops Q rest (a.put o.dst (.slice A' N c')) w') : wpList P ops Q (o :: rest) a w :=
  wpList_plain hgd fun _ hK => wp_append_bytes s x t ho base e T A n c xs hs hown B m d bs hx hb hm N hN hbytes hbase fun A' c' w' h2 h3 h4 h5 => hK _ _ (h A' c' w' h2 h3 h4 h5)
/-- .. behind a guard that says yes. -/
theorem wpList_append_bytes_g {ops : Array Oper} {rest : List Oper} {o : Oper} {a : Act} {Q : Exit → Act → World → Prop} (hgd : Region.wanted o (yielded ops a.tmps) = true) (s x : Operand) (t : TypeId)
    (ho : o.op = .call { callee := .builtin .append, args := #[s, x], argTypes := #[t, t] }) (base : Nat) (e : TypeId) (T : ByteTy P t e)
    (A : Option Addr) (n c : Nat) (xs : List UInt8) (hs : a.eval s = .slice A n c) (hown : Own w base e A n c xs)
    (B : Option Addr) (m d : Nat) (bs : List UInt8) (hx : a.eval x = .slice B m d) (hb : BAt w B bs) (hm : bs.length = m) (N : Nat) (hN : n + m = N) (hbytes : N ≤ 140737488355328) (hbase : base ≤ w.heap.size)
    (h : ∀ A' c' w', Own w' base e A' N c' (xs ++ bs) → w.grownBy w' (Value.slice A n c).ownBlock → Below base w w' → (A' = A ∨ A' = some ⟨w.heap.size, 0, none⟩) → wpList P ops Q rest (a.put o.dst (.slice A' N c')) w') : wpList P ops Q (o :: rest) a w :=
  BigFrame.wpList_want hgd fun _ hK => wp_append_bytes s x t ho base e T A n c xs hs hown B m d bs hx hb hm N hN hbytes hbase fun A' c' w' h2 h3 h4 h5 => hK _ _ (h A' c' w' h2 h3 h4 h5)
theorem wpList_make_bytes {ops : Array Oper} {rest : List Oper} {o : Oper} {a : Act} {Q : Exit → Act → World → Prop} (hgd : o.guard = none) (l c : Operand) (t e : TypeId)
    (ho : o.op = Op.makeSlice t l c) (T : ByteTy P t e) (kl kc : IntKind) (n : Nat) (hl : a.eval l = .int kl (n : Int)) (hc : a.eval c = .int kc (n : Int)) (hn : n ≤ 281474976710656)
    (h : ∀ w', Blk w' w.heap.size e (cellsOf (List.replicate n 0)) → Below w.heap.size w w' → w.heap.size < w'.heap.size → wpList P ops Q rest (a.put o.dst (.slice (some ⟨w.heap.size, 0, none⟩) n n)) w') : wpList P ops Q (o :: rest) a w := by
  obtain ⟨i, hi, hz, hs, hby⟩ := T.info
  refine wpList_plain hgd fun K hK => ?_
  have hb : (i.bytes : Int) * (n : Int) ≤ 281474976710656 := by rw [hby]; omega
  have hr := run_make (P := P) w t e i _ T.ht hi hz kl kc n n (by omega) (Int.le_refl _) hb (by omega)
  simp only [Int.toNat_natCast, hs] at hr
  unfold Oper.wp execOp
  simp only [ho, hl, hc, Sem.run_bind, Sem.run_pure, Result.andThen_ok, hr]
  refine hK _ _ (h _ ?_ ((Below.refl _ _).alloc (Nat.le_refl _) _) (by simp))
  have hcells : madeCells (Value.int .u8 0).cells (n * 1) = cellsOf (List.replicate n 0) := by
    apply Array.ext'
    rw [show (Value.int .u8 0).cells = #[Value.int .u8 0] from rfl, toList_madeCells_one, Nat.mul_one]
    simp [cellsOf, B8, V8]
  rw [hcells]
  exact Blk.new _ _ _
/-- 'row[l:]' of an array of N bytes in memory. -/
theorem run_cutArray (t e : TypeId) (N : Nat) (ht : P.underlying t = some (.array N e)) (he : (P.info? e).map (fun i => (i.zero, i.size, i.bytes)) = some (some (.int .u8 0), 1, 1)) (g o : Nat) (kl : IntKind) (L : Int) (l : Nat) (hL : L = (l : Int)) (hl : l < N) (W : World) :
    (Instr.sliceAt t (.pointer (some ⟨g, o, none⟩)) (some (.int kl L)) none none).run P W = .ok (.slice (some ⟨g, o + l, none⟩) (N - l) (N - l)) W := by
  subst hL
  obtain ⟨i, hi, hz, hs, hby⟩ := info_parts he
  simp [Instr.sliceAt, Instr.sureAddr, run_underlying ht, Instr.sliceBounds, run_sliceBound W kl (l : Int) N .sliceB (by omega) (by omega), sizeOf, typeInfo, hi, hs, add_off, Nat.ne_of_gt hl]
/-- Where a cut of a slice begins. -/
def cutA (A : Option Addr) (m l : Nat) : Option Addr := if m = l then A else A.map (·.add l)
theorem add_zero_map (A : Option Addr) : A.map (·.add 0) = A := by cases A <;> simp [Addr.add]
theorem cutA_zero (A : Option Addr) (m : Nat) : cutA A m 0 = A := by
  unfold cutA
  split
  · rfl
  · exact add_zero_map A
theorem BAt.cut {A : Option Addr} {bs : List UInt8} (h : BAt w A bs) (m l : Nat) (hl : bs.length ≤ m) : BAt w (cutA A m l) (bs.drop l) := by
  unfold cutA
  split
  · have hz : bs.drop l = [] := List.drop_eq_nil_of_le (by omega)
    rw [hz]
    exact BAt.nil_ _ _
  · cases A with
    | none =>
      intro h0
      simp at h0
      obtain ⟨ad, e, _⟩ := h (by omega)
      cases e
    | some a => exact h.drop l
theorem run_cut_l (t e : TypeId) (T : ByteTy P t e) (A : Option Addr) (n cap : Nat) (kl : IntKind) (L : Int) (l : Nat) (hL : L = (l : Int)) (hl : l ≤ n) (W : World) :
    (Instr.sliceAt t (.slice A n cap) (some (.int kl L)) none none).run P W = .ok (.slice (cutA A cap l) (n - l) (cap - l)) W := by
  subst hL
  obtain ⟨i, hi, hz, hs, hby⟩ := T.info
  simp [Instr.sliceAt, Instr.slice, run_underlying T.ht, Instr.sliceBounds, run_sliceBound W kl (l : Int) n .sliceB (by omega) (by omega), sizeOf, typeInfo, hi, hs, cutA]
theorem run_cut_h (t e : TypeId) (T : ByteTy P t e) (A : Option Addr) (n cap : Nat) (kh : IntKind) (H : Int) (h : Nat) (hH : H = (h : Int)) (hh : h ≤ cap) (W : World) :
    (Instr.sliceAt t (.slice A n cap) none (some (.int kh H)) none).run P W = .ok (.slice A h cap) W := by
  subst hH
  obtain ⟨i, hi, hz, hs, hby⟩ := T.info
  have hA : ¬ cap = 0 → A.map (fun x => x.add 0) = A := fun _ => add_zero_map A
  simp [Instr.sliceAt, Instr.slice, run_underlying T.ht, Instr.sliceBounds, run_sliceBound W kh (h : Int) cap .sliceAcap (by omega) (by omega), sizeOf, typeInfo, hi]
  exact hA
theorem run_cut_lh (t e : TypeId) (T : ByteTy P t e) (A : Option Addr) (n cap : Nat) (kl kh : IntKind) (L H : Int) (l h : Nat) (hL : L = (l : Int)) (hH : H = (h : Int)) (hl : l ≤ h) (hh : h ≤ cap) (W : World) :
    (Instr.sliceAt t (.slice A n cap) (some (.int kl L)) (some (.int kh H)) none).run P W = .ok (.slice (cutA A cap l) (h - l) (cap - l)) W := by
  subst hL hH
  obtain ⟨i, hi, hz, hs, hby⟩ := T.info
  simp [Instr.sliceAt, Instr.slice, run_underlying T.ht, Instr.sliceBounds, run_sliceBound W kh (h : Int) cap .sliceAcap (by omega) (by omega), run_sliceBound W kl (l : Int) h .sliceB (by omega) (by omega), sizeOf, typeInfo, hi, hs, cutA]
theorem run_cut_lhm (t e : TypeId) (T : ByteTy P t e) (A : Option Addr) (n cap : Nat) (kl kh km : IntKind) (L H M : Int) (l h m : Nat) (hL : L = (l : Int)) (hH : H = (h : Int)) (hM : M = (m : Int)) (hl : l ≤ h) (hh : h ≤ m) (hm : m ≤ cap) (W : World) :
    (Instr.sliceAt t (.slice A n cap) (some (.int kl L)) (some (.int kh H)) (some (.int km M))).run P W = .ok (.slice (cutA A m l) (h - l) (m - l)) W := by
  subst hL hH hM
  obtain ⟨i, hi, hz, hs, hby⟩ := T.info
  simp [Instr.sliceAt, Instr.slice, run_underlying T.ht, Instr.sliceBounds, run_sliceBound W km (m : Int) cap .slice3Acap (by omega) (by omega), run_sliceBound W kh (h : Int) m .slice3B (by omega) (by omega), run_sliceBound W kl (l : Int) h .slice3C (by omega) (by omega), sizeOf, typeInfo, hi, hs, cutA]
theorem run_cut_hm (t e : TypeId) (T : ByteTy P t e) (A : Option Addr) (n cap : Nat) (kh km : IntKind) (H M : Int) (h m : Nat) (hH : H = (h : Int)) (hM : M = (m : Int)) (hh : h ≤ m) (hm : m ≤ cap) (W : World) :
    (Instr.sliceAt t (.slice A n cap) none (some (.int kh H)) (some (.int km M))).run P W = .ok (.slice A h m) W := by
  subst hH hM
  obtain ⟨i, hi, hz, hs, hby⟩ := T.info
  have hA : ¬ m = 0 → A.map (fun x => x.add 0) = A := fun _ => add_zero_map A
  simp [Instr.sliceAt, Instr.slice, run_underlying T.ht, Instr.sliceBounds, run_sliceBound W km (m : Int) cap .slice3Acap (by omega) (by omega), run_sliceBound W kh (h : Int) m .slice3B (by omega) (by omega), sizeOf, typeInfo, hi]
  exact hA
/-- 'copy' of bytes into a block that is known whole. -/
theorem run_copy_bytes (t e ty : TypeId) (T : ByteTy P t e) (g o dl dc te : Nat) (old : List UInt8) (hg : Blk w g te (cellsOf old)) (B : Option Addr) (m d : Nat) (bs : List UInt8) (hb : BAt w B bs) (hm : bs.length = m) (k : Nat) (hk : k = Nat.min m dl) (hfit : o + k ≤ old.length) (hnil : B = none → d = 0) :
    ∃ w', (Builtin.copy_ #[t, t] ty #[.slice (some ⟨g, o, none⟩) dl dc, .slice B m d]).run P w = .ok (.int .i64 (k : Int)) w' ∧ Blk w' g te (cellsOf (old.take o ++ bs.take k ++ old.drop (o + k))) ∧ w.grownBy w' (some g) ∧ w'.heap.size = w.heap.size := by
  obtain ⟨i, hi, hz, hs, hby⟩ := T.info
  rcases B with _ | ad
  · have hm0 : m = 0 := by
      rcases Nat.eq_zero_or_pos m with h0 | h0
      · exact h0
      · obtain ⟨ad, h, _⟩ := hb (by omega)
        cases h
    subst hm0
    have hd0 := hnil rfl
    subst hd0
    have hk0 : k = 0 := by rw [hk]; exact Nat.zero_min _
    refine ⟨w, ?_, by simpa [hk0] using hg, World.grownBy.refl w _, rfl⟩
    rw [run_copy_nil P w t t ty e _ dl dc T.ht (by simp [hi]), hk0]
    rfl
  · have hkm : k ≤ m := by rw [hk]; exact Nat.min_le_left _ _
    have hrun := run_copy_row P w t t ty e g o dl dc ad m d (cellsOf old) te ((bs.take k).map B8) T.ht (by simp [hi, hs]) hg (by simp; rw [hk]; omega) (by
      intro j v hv
      have hj : j < k := by
        have := (List.getElem?_eq_some_iff.1 hv).1
        simp at this; omega
      obtain ⟨ad', h, hc⟩ := hb (by omega)
      injection h with h; subst h
      rw [hc j (by omega)]
      have hjb : j < bs.length := by omega
      simp [hj, B8, hjb] at hv ⊢
      exact hv) (by simp [cellsOf]; omega) (by intro v hv; obtain ⟨b, _, rfl⟩ := List.mem_map.1 hv; rfl)
    have hlen : ((bs.take k).map B8).length = k := by simp; omega
    rw [hlen] at hrun
    have hcells : ((cellsOf old).toList.take o ++ (bs.take k).map B8 ++ (cellsOf old).toList.drop (o + k)).toArray = cellsOf (old.take o ++ bs.take k ++ old.drop (o + k)) := by simp [cellsOf]
    rw [hcells] at hrun
    refine ⟨_, hrun, ?_, ?_, by simp [World.setRow]⟩
    · unfold Blk at hg ⊢
      simp [World.setRow, Array.getElem?_modify, hg]
    · refine ⟨rfl, rfl, rfl, by simp [World.setRow], fun j hj hne => ?_⟩
      have : g ≠ j := fun e => hne (by rw [e])
      simp [World.setRow, Array.getElem?_modify, this]
theorem wpList_copy_bytes {ops : Array Oper} {rest : List Oper} {o : Oper} {a : Act} {Q : Exit → Act → World → Prop} (hgd : o.guard = none) (s x : Operand) (t : TypeId)
    (ho : o.op = .call { callee := .builtin .copy, args := #[s, x], argTypes := #[t, t] }) (e : TypeId) (T : ByteTy P t e) (g off dl dc te : Nat) (old : List UInt8) (hs : a.eval s = .slice (some ⟨g, off, none⟩) dl dc)
    (hg : Blk w g te (cellsOf old)) (B : Option Addr) (m d : Nat) (bs : List UInt8) (hx : a.eval x = .slice B m d) (hb : BAt w B bs) (hm : bs.length = m) (k : Nat) (hk : k = Nat.min m dl) (hfit : off + k ≤ old.length) (hnil : B = none → d = 0)
    (h : ∀ w', Blk w' g te (cellsOf (old.take off ++ bs.take k ++ old.drop (off + k))) → w.grownBy w' (some g) → w'.heap.size = w.heap.size → wpList P ops Q rest (a.put o.dst (.int .i64 (k : Int))) w') : wpList P ops Q (o :: rest) a w :=
  wpList_plain hgd fun K hK => by
    obtain ⟨w', hrun, h2, h3, h4⟩ := run_copy_bytes (P := P) (w := w) t e o.type T g off dl dc te old hg B m d bs hb hm k hk hfit hnil
    unfold Oper.wp execOp
    simp only [ho, resolve, invoke, builtin, Sem.run_bind, Sem.run_pure, Result.andThen_ok, List.map_toArray, List.map_cons, List.map_nil, hs, hx, hrun]
    exact hK _ _ (h w' h2 h3 h4)
/-- 'make([]byte, l, c)'. -/
theorem run_makeCap {t e : TypeId} (T : ByteTy P t e) (l c : Nat) (L C : Int) (hL : L = (l : Int)) (hC : C = (c : Int)) (hlc : l ≤ c) (hc : c ≤ 281474976710656) (W : World) :
    (Instr.makeSlice t (.int .i64 L) (.int .i64 C)).run P W = .ok (.slice (some ⟨W.heap.size, 0, none⟩) l c) (W.alloc (.cells (cellsOf (List.replicate c 0)) e)) := by
  subst hL hC
  obtain ⟨i, hi, hz, hs, hby⟩ := T.info
  have hb : (i.bytes : Int) * (c : Int) ≤ 281474976710656 := by rw [hby]; omega
  have hr := run_make (P := P) W t e i _ T.ht hi hz .i64 .i64 l c (by omega) (by omega) hb (by omega)
  simp only [Int.toNat_natCast, hs] at hr
  have hcells : madeCells (Value.int .u8 0).cells (c * 1) = cellsOf (List.replicate c 0) := by
    apply Array.ext'
    rw [show (Value.int .u8 0).cells = #[Value.int .u8 0] from rfl, toList_madeCells_one, Nat.mul_one]
    simp [cellsOf, B8, V8]
  rw [hcells] at hr
  exact hr
/-- 'string(b)'. -/
theorem run_toString {t e ts : TypeId} (T : ByteTy P t e) (hd : P.underlying ts = some .string) {A : Option Addr} {bs : List UInt8} {n : Nat} (cap : Nat) (hb : BAt w A bs) (hn : bs.length = n) :
    (convert t ts (.slice A n cap)).run P w = .ok (.string ⟨bs.toArray⟩) w := by
  subst hn
  rw [run_convert_bytes_string w t ts e A _ cap T.ht T.he hd]
  cases A with
  | none =>
    have hbs : bs = [] := by
      rcases Nat.eq_zero_or_pos bs.length with h0 | h0
      · exact List.eq_nil_of_length_eq_zero h0
      · obtain ⟨ad, h, _⟩ := hb h0
        cases h
    subst hbs
    simp [Conv.bytesToString]
    rfl
  | some a =>
    have hl : (loadCells a bs.length).run P w = .ok ((bs.map V8).map (Value.int .u8)).toArray w := by
      have := run_loadCells_list (P := P) w a (bs.map B8) (by
        intro j v hv
        have hj : j < bs.length := by
          have := (List.getElem?_eq_some_iff.1 hv).1
          simpa using this
        obtain ⟨ad', h, hc⟩ := hb (by omega)
        injection h with h; subst h
        rw [hc j hj]
        simp [hj, B8] at hv ⊢
        exact hv)
      rw [List.length_map] at this
      rw [this, List.map_map]
      rfl
    rw [run_bytesToString w a bs.length cap (bs.map V8) hl, foldl_push_bytes]
    simp [Function.comp_def, V8]
theorem step_copy_bytes {ops : Array Oper} {o : Oper} {a : Act} {K : Act → World → Prop} {Q : Exit → Act → World → Prop} {E : Prop} (hgd : o.guard = none) (s x : Operand) (t : TypeId)
    (ho : o.op = .call { callee := .builtin .copy, args := #[s, x], argTypes := #[t, t] }) (e : TypeId) (T : ByteTy P t e) (g off dl dc te : Nat) (old : List UInt8) (hs : a.eval s = .slice (some ⟨g, off, none⟩) dl dc)
    (hg : Blk w g te (cellsOf old)) (B : Option Addr) (m d : Nat) (bs : List UInt8) (hx : a.eval x = .slice B m d) (hb : BAt w B bs) (hm : bs.length = m) (k : Nat) (hk : k = Nat.min m dl) (hfit : off + k ≤ old.length) (hnil : B = none → d = 0)
    (h : ∀ w', Blk w' g te (cellsOf (old.take off ++ bs.take k ++ old.drop (off + k))) → w.grownBy w' (some g) → w'.heap.size = w.heap.size → K (a.put o.dst (.int .i64 (k : Int))) w') :
    if Region.wanted o (yielded ops a.tmps) = true then Oper.wp P o a w K Q else E := by
  have hw : Region.wanted o (yielded ops a.tmps) = true := by simp [Region.wanted, hgd]
  rw [if_pos hw]
  obtain ⟨w', hrun, h2, h3, h4⟩ := run_copy_bytes (P := P) (w := w) t e o.type T g off dl dc te old hg B m d bs hb hm k hk hfit hnil
  unfold Oper.wp execOp
  simp only [ho, resolve, invoke, builtin, Sem.run_bind, Sem.run_pure, Result.andThen_ok, List.map_toArray, List.map_cons, List.map_nil, hs, hx, hrun]
  exact h w' h2 h3 h4
theorem step_append_bytes {ops : Array Oper} {o : Oper} {a : Act} {K : Act → World → Prop} {Q : Exit → Act → World → Prop} {E : Prop} (hgd : o.guard = none) (s x : Operand) (t : TypeId)
    (ho : o.op = .call { callee := .builtin .append, args := #[s, x], argTypes := #[t, t] }) (base : Nat) (e : TypeId) (T : ByteTy P t e)
    (A : Option Addr) (n c : Nat) (xs : List UInt8) (hs : a.eval s = .slice A n c) (hown : Own w base e A n c xs)
    (B : Option Addr) (m d : Nat) (bs : List UInt8) (hx : a.eval x = .slice B m d) (hb : BAt w B bs) (hm : bs.length = m) (N : Nat) (hN : n + m = N) (hbytes : N ≤ 140737488355328) (hbase : base ≤ w.heap.size)
    (h : ∀ A' c' w', Own w' base e A' N c' (xs ++ bs) → w.grownBy w' (Value.slice A n c).ownBlock → Below base w w' → (A' = A ∨ A' = some ⟨w.heap.size, 0, none⟩) → K (a.put o.dst (.slice A' N c')) w') :
    if Region.wanted o (yielded ops a.tmps) = true then Oper.wp P o a w K Q else E := by
  have hw : Region.wanted o (yielded ops a.tmps) = true := by simp [Region.wanted, hgd]
  rw [if_pos hw]
  exact wp_append_bytes s x t ho base e T A n c xs hs hown B m d bs hx hb hm N hN hbytes hbase h
end
end Go.Proofs.YtloffgoenaomkaaDoor.Mem
/- Slices that the call itself makes, of whatever elements: append, in terms of the list of cells. Over any program. No program's function is walked here. -/
namespace Go.Proofs.YtloffgoenaomkaaDoor.Mem
open Go.RowKit
/-- What a program's tables say of a slice of elements. -/
structure ElTy (P : Program) (t e : TypeId) (size bytes : Nat) (z : Value) : Prop where
  ht : P.underlying t = some (.slice e)
  hi : (P.info? e).map (fun i => (i.zero, i.size, i.bytes)) = some (some z, size, bytes)
  hz : z.cells.size = size
  h0 : 0 < size
theorem ElTy.info {P : Program} {t e : TypeId} {size bytes : Nat} {z : Value} (T : ElTy P t e size bytes z) : ∃ i, P.info? e = some i ∧ i.zero = some z ∧ i.size = size ∧ i.bytes = bytes := info_parts T.hi
/-- The slice A of n elements is the call's own and has these cells. -/
def OwnG (w : World) (base : Nat) (e : TypeId) (size : Nat) (A : Option Addr) (n c : Nat) (xs : List Value) : Prop := w.ownsRow base e size (.slice A n c) n xs
section
variable {w w' : World} {base : Nat} {e : TypeId} {size : Nat} {A : Option Addr} {n c n' : Nat} {xs : List Value}
theorem OwnG.len (h : OwnG w base e size A n c xs) : xs.length = n * size := h.1
theorem OwnG.form (h : OwnG w base e size A n c xs) : (A = none ∧ n = 0 ∧ c = 0) ∨ ∃ g, A = some ⟨g, 0, none⟩ ∧ base ≤ g ∧ g < w.heap.size := by
  rcases h.2 with ⟨h, rfl⟩ | ⟨g, cap, cur, h, hb, hh, hn, hm, _⟩
  · injection h with h1 _ h3; exact .inl ⟨h1, rfl, h3⟩
  · injection h with h1 _ h3
    refine .inr ⟨g, h1, hb, ?_⟩
    rcases Nat.lt_or_ge g w.heap.size with h' | h'
    · exact h'
    · rw [Array.getElem?_eq_none h'] at hh; cases hh
theorem OwnG.cap_le (h : OwnG w base e size A n c xs) : n ≤ c ∧ c ≤ maxLen := by
  rcases h.2 with ⟨h, rfl⟩ | ⟨g, cap, cur, h, _, _, hn, hm, _⟩
  · injection h with _ _ h3; subst h3; exact ⟨Nat.le_refl _, by unfold maxLen; omega⟩
  · injection h with _ _ h3; subst h3; exact ⟨hn, hm⟩
theorem OwnG.block (h : OwnG w base e size A n c xs) : (Value.slice A n c).ownBlock = A.map (·.block) := by cases A <;> rfl
/-- Each of its cells. -/
theorem OwnG.cell (h : OwnG w base e size A n c xs) (k : Nat) (v : Value) (hv : xs[k]? = some v) : ∃ g, A = some ⟨g, 0, none⟩ ∧ w.cell? ⟨g, k, none⟩ = some v := by
  rcases h.form with ⟨rfl, hn, _⟩ | ⟨g, rfl, _, _⟩
  · have := h.len
    have := (List.getElem?_eq_some_iff.1 hv).1
    simp_all
  · exact ⟨g, rfl, by have := h.cells (g := g) rfl k v hv; rwa [add_off, Nat.zero_add] at this⟩
theorem OwnG.kept {row : Option Nat} (h : OwnG w base e size A n c xs) (hg : w.grownBy w' row) (hne : A = none ∨ A.map (·.block) ≠ row) : OwnG w' base e size A n c xs :=
  World.ownsRow.kept h hg (by rcases hne with rfl | hne; exact .inl rfl; exact .inr (by rw [h.block]; exact hne))
theorem OwnG.below (h : OwnG w base e size A n c xs) (hb : Below w.heap.size w w') : OwnG w' base e size A n c xs := by
  refine ⟨h.1, ?_⟩
  rcases h.2 with h1 | ⟨g, cap, cur, h1, h2, hh, h3⟩
  · exact .inl h1
  · refine .inr ⟨g, cap, cur, h1, h2, ?_, h3⟩
    rw [hb.block g, hh]
    rcases Nat.lt_or_ge g w.heap.size with h' | h'
    · exact h'
    · rw [Array.getElem?_eq_none h'] at hh; cases hh
theorem OwnG.alloc (h : OwnG w base e size A n c xs) (o : Obj) : OwnG (w.alloc o) base e size A n c xs := World.ownsRow.alloc h o
theorem OwnG.drew (h : OwnG w base e size A n c xs) : OwnG w.drew base e size A n c xs := h
theorem OwnG.mono {base' : Nat} (h : OwnG w base e size A n c xs) (hb : base' ≤ base) : OwnG w base' e size A n c xs := by
  refine ⟨h.1, ?_⟩
  rcases h.2 with h1 | ⟨g, cap, cur, h1, h2, h3⟩
  · exact .inl h1
  · exact .inr ⟨g, cap, cur, h1, by omega, h3⟩
theorem OwnG.nil_ (w : World) (base : Nat) (e : TypeId) (size : Nat) : OwnG w base e size none 0 0 [] := World.ownsRow_nil w base e size
theorem OwnG.row_ge (h : OwnG w base e size A n c xs) : ∀ k, (Value.slice A n c).ownBlock = some k → base ≤ k := by
  intro k hk
  rcases h.form with ⟨rfl, _, _⟩ | ⟨g, rfl, hg, _⟩
  · cases hk
  · injection hk with hk; subst hk; exact hg
theorem OwnG.of_blk {g k : Nat} (h : Blk w g e xs.toArray) (hb : base ≤ g) (hn : xs.length = k * size) (hm : k ≤ maxLen) : OwnG w base e size (some ⟨g, 0, none⟩) k k xs :=
  ⟨hn, .inr ⟨g, k, _, rfl, hb, h, Nat.le_refl _, hm, by simp [hn], by simpa using List.take_of_length_le (by omega)⟩⟩
theorem OwnG.ne_lt {g : Nat} (h : OwnG w base e size A n c xs) (hg : g < base) : A.map (·.block) ≠ some g := by
  rcases h.form with ⟨rfl, _, _⟩ | ⟨g, rfl, hg, _⟩
  · simp
  · simp
    omega
end
section
variable {P : Program} {w : World}
theorem run_append_g (base : Nat) (t ty e : TypeId) (size bytes : Nat) (z : Value) (T : ElTy P t e size bytes z) (A : Option Addr) (n c : Nat) (xs : List Value) (hown : OwnG w base e size A n c xs)
    (ad : Addr) (m d : Nat) (news : List Value) (hl : news.length = m * size) (hnews : ∀ j u, news[j]? = some u → w.cell? (ad.add j) = some u) (h1 : ∀ u ∈ news, u.oneCell' = true)
    (hm : n + m ≤ maxLen) (hbytes : (n + m) * bytes ≤ 140737488355328) (hbase : base ≤ w.heap.size) :
    ∃ A' c' w', (Builtin.append_ #[t, t] ty #[.slice A n c, .slice (some ad) m d]).run P w = .ok (.slice A' (n + m) c') w' ∧ OwnG w' base e size A' (n + m) c' (xs ++ news) ∧ w.grownBy w' (Value.slice A n c).ownBlock ∧
      (A' = A ∨ A' = some ⟨w.heap.size, 0, none⟩) := by
  obtain ⟨i, hi, hz, hs, hby⟩ := T.info
  obtain ⟨v', w', hrun, h2, h3, _, h5⟩ := run_append_own_at (P := P) w base t ty e i z size bytes T.ht hi hz hs hby T.hz T.h0 (.slice A n c) n xs hown ad m d news hl hnews h1 hm hbytes hbase
  have hf := h2.2
  have hA : ∃ A' c', v' = .slice A' (n + m) c' := by
    rcases hf with ⟨h, h0⟩ | ⟨g, cap, cur, h, _⟩
    · exact ⟨none, 0, by rw [h, h0]⟩
    · exact ⟨_, _, h⟩
  obtain ⟨A', c', rfl⟩ := hA
  have hO : OwnG w' base e size A' (n + m) c' (xs ++ news) := h2
  refine ⟨A', c', w', hrun, hO, h3, ?_⟩
  have hown' : OwnG w base e size A n c xs := hown
  rcases h5 with h5 | h5
  · left
    rcases hO.form with ⟨rfl, _, _⟩ | ⟨g, rfl, _, _⟩ <;> rcases hown'.form with ⟨rfl, _, _⟩ | ⟨g', rfl, _, _⟩ <;> simp [Value.ownBlock] at h5 ⊢
    exact h5
  · right
    rcases hO.form with ⟨rfl, _, _⟩ | ⟨g, rfl, _, _⟩ <;> simp [Value.ownBlock] at h5 ⊢
    exact h5
theorem wp_append_g {o : Oper} {a : Act} {K : Act → World → Prop} {Q : Exit → Act → World → Prop} (s x : Operand) (t : TypeId)
    (ho : o.op = .call { callee := .builtin .append, args := #[s, x], argTypes := #[t, t] }) (base : Nat) (e : TypeId) (size bytes : Nat) (z : Value) (T : ElTy P t e size bytes z)
    (A : Option Addr) (n c : Nat) (xs : List Value) (hs : a.eval s = .slice A n c) (hown : OwnG w base e size A n c xs)
    (ad : Addr) (m d : Nat) (news : List Value) (hx : a.eval x = .slice (some ad) m d) (hl : news.length = m * size) (hnews : ∀ j u, news[j]? = some u → w.cell? (ad.add j) = some u) (h1 : ∀ u ∈ news, u.oneCell' = true)
    (hm : n + m ≤ maxLen) (hbytes : (n + m) * bytes ≤ 140737488355328) (hbase : base ≤ w.heap.size)
    (h : ∀ A' c' w', OwnG w' base e size A' (n + m) c' (xs ++ news) → w.grownBy w' (Value.slice A n c).ownBlock → Below base w w' → (A' = A ∨ A' = some ⟨w.heap.size, 0, none⟩) → K (a.put o.dst (.slice A' (n + m) c')) w') : o.wp P a w K Q := by
  obtain ⟨A', c', w', hrun, h2, h3, h4⟩ := run_append_g (P := P) base t o.type e size bytes z T A n c xs hown ad m d news hl hnews h1 hm hbytes hbase
  unfold Oper.wp execOp
  simp only [ho, resolve, invoke, builtin, Sem.run_bind, Sem.run_pure, Result.andThen_ok, List.map_toArray, List.map_cons, List.map_nil, hs, hx, hrun]
  exact h A' c' w' h2 h3 (World_grown_below h3 hbase hown.row_ge) h4
theorem wpList_append_g {ops : Array Oper} {rest : List Oper} {o : Oper} {a : Act} {Q : Exit → Act → World → Prop} (hgd : o.guard = none) (s x : Operand) (t : TypeId)
    (ho : o.op = .call { callee := .builtin .append, args := #[s, x], argTypes := #[t, t] }) (base : Nat) (e : TypeId) (size bytes : Nat) (z : Value) (T : ElTy P t e size bytes z)
    (A : Option Addr) (n c : Nat) (xs : List Value) (hs : a.eval s = .slice A n c) (hown : OwnG w base e size A n c xs)
    (ad : Addr) (m d : Nat) (news : List Value) (hx : a.eval x = .slice (some ad) m d) (hl : news.length = m * size) (hnews : ∀ j u, news[j]? = some u → w.cell? (ad.add j) = some u) (h1 : ∀ u ∈ news, u.oneCell' = true)
    (hm : n + m ≤ maxLen) (hbytes : (n + m) * bytes ≤ 140737488355328) (hbase : base ≤ w.heap.size)
    (h : ∀ A' c' w', OwnG w' base e size A' (n + m) c' (xs ++ news) → w.grownBy w' (Value.slice A n c).ownBlock → Below base w w' → (A' = A ∨ A' = some ⟨w.heap.size, 0, none⟩) → wpList P ops Q rest (a.put o.dst (.slice A' (n + m) c')) w') : wpList P ops Q (o :: rest) a w :=
  wpList_plain hgd fun _ hK => wp_append_g s x t ho base e size bytes z T A n c xs hs hown ad m d news hx hl hnews h1 hm hbytes hbase fun A' c' w' h2 h3 h4 h5 => hK _ _ (h A' c' w' h2 h3 h4 h5)
/-- 'copy' of bytes into the midst of a block of whatever cells. -/
theorem run_copy_mid (t e ty : TypeId) (T : ByteTy P t e) (g o dl dc te : Nat) (old : List Value) (hg : Blk w g te old.toArray) (B : Option Addr) (m d : Nat) (bs : List UInt8) (hb : BAt w B bs) (hm : bs.length = m) (h0 : 0 < m) (hk : m = dl) (hfit : o + m ≤ old.length) :
    ∃ w', (Builtin.copy_ #[t, t] ty #[.slice (some ⟨g, o, none⟩) dl dc, .slice B m d]).run P w = .ok (.int .i64 (m : Int)) w' ∧ Blk w' g te (old.take o ++ bs.map B8 ++ old.drop (o + m)).toArray ∧ w.grownBy w' (some g) ∧ w'.heap.size = w.heap.size := by
  obtain ⟨i, hi, hz, hs, hby⟩ := T.info
  obtain ⟨ad, rfl, hc⟩ := hb (by omega)
  subst hk
  have hrun := run_copy_row P w t t ty e g o m dc ad m d old.toArray te (bs.map B8) T.ht (by simp [hi, hs]) hg (by rw [List.length_map, hm]; exact (Nat.min_self m).symm) (by
    intro j v hv
    have hj : j < bs.length := by
      have := (List.getElem?_eq_some_iff.1 hv).1
      simpa using this
    rw [hc j hj]
    simp [hj, B8] at hv ⊢
    exact hv) (by simp; omega) (by intro v hv; obtain ⟨b, _, rfl⟩ := List.mem_map.1 hv; rfl)
  rw [List.length_map, hm] at hrun
  refine ⟨_, hrun, ?_, ?_, by simp [World.setRow]⟩
  · unfold Blk at hg ⊢
    simp [World.setRow, Array.getElem?_modify, hg]
  · refine ⟨rfl, rfl, rfl, by simp [World.setRow], fun j hj hne => ?_⟩
    have : g ≠ j := fun e => hne (by rw [e])
    simp [World.setRow, Array.getElem?_modify, this]
theorem step_copy_mid {ops : Array Oper} {o : Oper} {a : Act} {K : Act → World → Prop} {Q : Exit → Act → World → Prop} {E : Prop} (hgd : o.guard = none) (s x : Operand) (t : TypeId)
    (ho : o.op = .call { callee := .builtin .copy, args := #[s, x], argTypes := #[t, t] }) (e : TypeId) (T : ByteTy P t e) (g off dl dc te : Nat) (old : List Value) (hs : a.eval s = .slice (some ⟨g, off, none⟩) dl dc)
    (hg : Blk w g te old.toArray) (B : Option Addr) (m d : Nat) (bs : List UInt8) (hx : a.eval x = .slice B m d) (hb : BAt w B bs) (hm : bs.length = m) (h0 : 0 < m) (hk : m = dl) (hfit : off + m ≤ old.length)
    (h : ∀ w', Blk w' g te (old.take off ++ bs.map B8 ++ old.drop (off + m)).toArray → w.grownBy w' (some g) → w'.heap.size = w.heap.size → K (a.put o.dst (.int .i64 (m : Int))) w') :
    if Region.wanted o (yielded ops a.tmps) = true then Oper.wp P o a w K Q else E := by
  have hw : Region.wanted o (yielded ops a.tmps) = true := by simp [Region.wanted, hgd]
  rw [if_pos hw]
  obtain ⟨w', hrun, h2, h3, h4⟩ := run_copy_mid (P := P) (w := w) t e o.type T g off dl dc te old hg B m d bs hb hm h0 hk hfit
  unfold Oper.wp execOp
  simp only [ho, resolve, invoke, builtin, Sem.run_bind, Sem.run_pure, Result.andThen_ok, List.map_toArray, List.map_cons, List.map_nil, hs, hx, hrun]
  exact h w' h2 h3 h4
/-- The cells of a block that is known whole, as append asks for them. -/
theorem blk_news {g : Nat} {t : TypeId} {cs : List Value} (h : Blk w g t cs.toArray) : ∀ j u, cs[j]? = some u → w.cell? ((⟨g, 0, none⟩ : Addr).add j) = some u := fun j u hu => by
  rw [add_off, Nat.zero_add, h.cell]
  simpa using hu
end
end Go.Proofs.YtloffgoenaomkaaDoor.Mem
/- Words for objects in memory: what may have turned (Mods), slices of rows in blocks of a set F (Vec). Over any program. No program's function is walked here. -/
namespace Go.Proofs.YtloffgoenaomkaaDoor.Mem
open Go Go.RowKit
/-- Below block number B only blocks of F have turned, and new ones are there. -/
structure Mods (B : Nat) (F : Nat → Prop) (w w' : World) : Prop where
  os : w'.os = w.os
  tape : w'.tape = w.tape
  output : w'.output = w.output
  size : w.heap.size ≤ w'.heap.size
  keep : ∀ k, k < B → ¬ F k → w'.heap[k]? = w.heap[k]?
section
variable {B : Nat} {F G : Nat → Prop} {w w1 w' : World}
theorem Mods.refl (B : Nat) (F : Nat → Prop) (w : World) : Mods B F w w := ⟨rfl, rfl, rfl, Nat.le_refl _, fun _ _ _ => rfl⟩
theorem Mods.trans (h : Mods B F w w1) (k : Mods B F w1 w') : Mods B F w w' :=
  ⟨k.os.trans h.os, k.tape.trans h.tape, k.output.trans h.output, Nat.le_trans h.size k.size, fun i hi hn => (k.keep i hi hn).trans (h.keep i hi hn)⟩
theorem Mods.mono {B' : Nat} (h : Mods B F w w') (hB : B' ≤ B) (hF : ∀ k, k < B' → F k → G k) : Mods B' G w w' :=
  ⟨h.os, h.tape, h.output, h.size, fun i hi hn => h.keep i (Nat.lt_of_lt_of_le hi hB) fun hf => hn (hF i hi hf)⟩
theorem Mods.of_below (h : Below B w w') : Mods B F w w' := ⟨h.os, h.tape, h.output, h.size, fun i hi _ => h.block i hi⟩
theorem Mods.below (h : Mods B F w w') (hF : ∀ k, k < B → ¬ F k) : Below B w w' := ⟨h.os, h.tape, h.output, h.size, fun i hi => h.keep i hi (hF i hi)⟩
theorem Mods.alloc (h : Mods B F w w') (hB : B ≤ w'.heap.size) (o : Obj) : Mods B F w (w'.alloc o) :=
  ⟨h.os, h.tape, h.output, Nat.le_trans h.size (by simp), fun i hi hn => (Below.heap_alloc w' o i (Nat.lt_of_lt_of_le hi hB)).trans (h.keep i hi hn)⟩
theorem Mods.setCell (h : Mods B F w w') {p : Addr} (hp : F p.block ∨ B ≤ p.block) (v : Value) : Mods B F w (w'.setCell p v) :=
  ⟨h.os, h.tape, h.output, by simpa [World.setCell] using h.size, fun i hi hn => (Below.heap_setCell w' p v i (by
    rintro rfl
    rcases hp with hp | hp
    · exact hn hp
    · omega)).trans (h.keep i hi hn)⟩
theorem Mods.drew (h : Mods B F w w') : Mods B F w w'.drew := ⟨h.os, h.tape, h.output, h.size, h.keep⟩
theorem Mods.drewN (h : Mods B F w w') (n : Nat) : Mods B F w (w'.drewN n) := ⟨h.os, h.tape, h.output, h.size, h.keep⟩
theorem Mods.then_below {C : Nat} (h : Mods B F w w1) (k : Below C w1 w') (hB : B ≤ C) : Mods B F w w' := h.trans ((Mods.of_below k).mono hB fun _ _ hf => hf)
theorem Mods.grown {row : Option Nat} (h : Mods B F w w1) (k : w1.grownBy w' row) (hB : B ≤ w1.heap.size) (hr : ∀ g, row = some g → F g ∨ B ≤ g) : Mods B F w w' :=
  ⟨k.os.trans h.os, k.tape.trans h.tape, k.output.trans h.output, Nat.le_trans h.size k.size, fun i hi hn => (k.block i (Nat.lt_of_lt_of_le hi hB) (fun e => by
    rcases hr i e.symm with hf | hf
    · exact hn hf
    · omega)).trans (h.keep i hi hn)⟩
theorem Mods.lt (h : Mods B F w w') {g : Nat} (hg : g < w.heap.size) : g < w'.heap.size := Nat.lt_of_lt_of_le hg h.size
theorem Mods.heap (h : Mods B F w w') {g : Nat} (hB : g < B) (hn : ¬ F g) {o : Obj} (ho : w.heap[g]? = some o) : w'.heap[g]? = some o := (h.keep g hB hn).trans ho
theorem Blk.mods {g : Nat} {t : TypeId} {cs : Array Value} (hb : Blk w g t cs) (h : Mods B F w w') (hB : g < B) (hn : ¬ F g) : Blk w' g t cs := h.heap hB hn hb
end
/-- The set F, and what has been made since w. -/
def Grow (F : Nat → Prop) (w w' : World) : Nat → Prop := fun g => F g ∨ (w.heap.size ≤ g ∧ g < w'.heap.size)
/-- The value v is a slice of n elements, these cells, in a block of F (or it is empty, with no room). -/
def Vec (w : World) (F : Nat → Prop) (e : TypeId) (size : Nat) (v : Value) (n : Nat) (xs : List Value) : Prop :=
  ∃ A cap, v = .slice A n cap ∧ xs.length = n * size ∧
    ((n = 0 ∧ cap = 0) ∨ ∃ g cur, A = some ⟨g, 0, none⟩ ∧ F g ∧ w.heap[g]? = some (.cells cur e (0, 0)) ∧ n ≤ cap ∧ cap ≤ maxLen ∧ cur.size = cap * size ∧ cur.toList.take (n * size) = xs)
section
variable {B : Nat} {F G : Nat → Prop} {w w1 w' : World} {e : TypeId} {size n : Nat} {v : Value} {xs : List Value}
theorem Vec.mono (h : Vec w F e size v n xs) (hF : ∀ g, g < w.heap.size → F g → G g) : Vec w G e size v n xs := by
  obtain ⟨A, cap, rfl, hl, h | ⟨g, cur, hA, hf, hh, hr⟩⟩ := h
  · exact ⟨A, cap, rfl, hl, .inl h⟩
  · exact ⟨A, cap, rfl, hl, .inr ⟨g, cur, hA, hF g (Array.getElem?_eq_some_iff.1 hh).1 hf, hh, hr⟩⟩
theorem Vec.mods (h : Vec w F e size v n xs) (hm : Mods B G w w') (hn : ∀ g, g < w.heap.size → F g → g < B ∧ ¬ G g) : Vec w' F e size v n xs := by
  obtain ⟨A, cap, rfl, hl, h | ⟨g, cur, hA, hf, hh, hr⟩⟩ := h
  · exact ⟨A, cap, rfl, hl, .inl h⟩
  · obtain ⟨h1, h2⟩ := hn g (Array.getElem?_eq_some_iff.1 hh).1 hf
    exact ⟨A, cap, rfl, hl, .inr ⟨g, cur, hA, hf, hm.heap h1 h2 hh, hr⟩⟩
theorem Vec.heap (h : Vec w F e size v n xs) (hk : ∀ (g : Nat) (cs : Array Value), w.heap[g]? = some (Obj.cells cs e (0, 0)) → w'.heap[g]? = some (Obj.cells cs e (0, 0))) : Vec w' F e size v n xs := by
  obtain ⟨A, cap, rfl, hl, h | ⟨g, cur, hA, hf, hh, hr⟩⟩ := h
  · exact ⟨A, cap, rfl, hl, .inl h⟩
  · exact ⟨A, cap, rfl, hl, .inr ⟨g, cur, hA, hf, hk _ _ hh, hr⟩⟩
theorem Vec.nil_ (w : World) (F : Nat → Prop) (e : TypeId) (size : Nat) (A : Option Addr) : Vec w F e size (.slice A 0 0) 0 [] := ⟨A, 0, rfl, by simp, .inl ⟨rfl, rfl⟩⟩
theorem Vec.below (h : Vec w F e size v n xs) (hb : Below w.heap.size w w') : Vec w' F e size v n xs :=
  h.mods (Mods.of_below (F := fun _ => False) hb) fun _g hg _ => ⟨hg, fun x => x⟩
theorem Vec.alloc (h : Vec w F e size v n xs) (o : Obj) : Vec (w.alloc o) F e size v n xs := h.below ((Below.refl _ _).alloc (Nat.le_refl _) o)
theorem Vec.drew (h : Vec w F e size v n xs) : Vec w.drew F e size v n xs := h
/-- A row that a call owns lies in its own block. -/
theorem Vec.of_own {base : Nat} {A : Option Addr} {c : Nat} (h : OwnG w base e size A n c xs) (hF : ∀ g, base ≤ g → g < w.heap.size → F g) : Vec w F e size (.slice A n c) n xs := by
  refine ⟨A, c, rfl, h.1, ?_⟩
  rcases h.2 with ⟨h1, rfl⟩ | ⟨g, cap, cur, h1, h2, hh, h3⟩
  · injection h1 with _ _ h3
    exact .inl ⟨rfl, h3⟩
  · injection h1 with hA _ hc
    subst hA hc
    exact .inr ⟨g, cur, rfl, hF g h2 (Array.getElem?_eq_some_iff.1 hh).1, hh, h3⟩
theorem Vec.of_blk {g k : Nat} (h : Blk w g e xs.toArray) (hF : F g) (hn : xs.length = k * size) (hm : k ≤ maxLen) : Vec w F e size (.slice (some ⟨g, 0, none⟩) k k) k xs :=
  ⟨_, k, rfl, hn, .inr ⟨g, xs.toArray, rfl, hF, h, Nat.le_refl _, hm, by simp [hn], by simpa using List.take_of_length_le (by omega)⟩⟩
/-- What it is where it has elements. -/
theorem Vec.form (h : Vec w F e size v n xs) (h0 : 0 < n) : ∃ g cap cur, v = .slice (some ⟨g, 0, none⟩) n cap ∧ F g ∧ w.heap[g]? = some (.cells cur e (0, 0)) ∧ n ≤ cap ∧ cap ≤ maxLen ∧ cur.size = cap * size ∧ cur.toList.take (n * size) = xs := by
  obtain ⟨A, cap, rfl, hl, ⟨h1, _⟩ | ⟨g, cur, rfl, hr⟩⟩ := h
  · omega
  · exact ⟨g, cap, cur, rfl, hr⟩
theorem Vec.shape (h : Vec w F e size v n xs) : ∃ A cap, v = .slice A n cap := by obtain ⟨A, cap, rfl, _⟩ := h; exact ⟨A, cap, rfl⟩
theorem Vec.len (h : Vec w F e size v n xs) : xs.length = n * size := by obtain ⟨A, cap, rfl, hl, _⟩ := h; exact hl
theorem Vec.le (h : Vec w F e size v n xs) : n ≤ maxLen := by
  obtain ⟨A, cap, rfl, hl, ⟨h1, _⟩ | ⟨g, cur, rfl, _, _, h1, h2, _⟩⟩ := h
  · unfold maxLen; omega
  · omega
theorem Vec.cell {A : Option Addr} {cap : Nat} (h : Vec w F e size (.slice A n cap) n xs) (k : Nat) (u : Value) (hu : xs[k]? = some u) : ∃ g, A = some ⟨g, 0, none⟩ ∧ w.cell? ⟨g, k, none⟩ = some u := by
  obtain ⟨A', cap', he, hl, ⟨h1, _⟩ | ⟨g, cur, hA, _, hh, _, _, _, ht⟩⟩ := h
  · have := (List.getElem?_eq_some_iff.1 hu).1
    simp [hl, h1] at this
  · injection he with he
    subst he hA
    refine ⟨g, rfl, ?_⟩
    rw [← ht, List.getElem?_take] at hu
    split at hu
    · simpa [World.cell?, hh] using hu
    · cases hu
theorem Vec.at_ {g cap : Nat} (h : Vec w F e size (.slice (some ⟨g, 0, none⟩) n cap) n xs) {k : Nat} {u : Value} (hu : xs[k]? = some u) : w.cell? ⟨g, k, none⟩ = some u := by
  obtain ⟨g', he, hc⟩ := h.cell k u hu
  injection he with he
  injection he with he
  subst he
  exact hc
theorem Vec.range {g cap : Nat} (h : Vec w F e size (.slice (some ⟨g, 0, none⟩) n cap) n xs) (k : Nat) (row : List Value) (hr : ∀ j u, row[j]? = some u → xs[k + j]? = some u) : w.rangeAt g k row :=
  fun j u hu => h.at_ (hr j u hu)
theorem Vec.blockF {g cap : Nat} (h : Vec w F e size (.slice (some ⟨g, 0, none⟩) n cap) n xs) (h0 : 0 < n) : F g ∧ ∃ cur, w.heap[g]? = some (.cells cur e (0, 0)) := by
  obtain ⟨g', cap', cur, he, hf, hh, _⟩ := h.form h0
  injection he with he
  injection he with he
  injection he with he
  subst he
  exact ⟨hf, cur, hh⟩
theorem Vec.free {g cap : Nat} (h : Vec w F e size (.slice (some ⟨g, 0, none⟩) n cap) n xs) (h0 : 0 < n) (k : Nat) : w.frozen? ⟨g, k, none⟩ = false := by
  obtain ⟨_, cur, hh⟩ := h.blockF h0
  simp [World.frozen?, hh]
theorem Vec.set {g cap : Nat} (h : Vec w F e size (.slice (some ⟨g, 0, none⟩) n cap) n xs) (k : Nat) (u : Value) : Vec (w.setCell ⟨g, k, none⟩ u) F e size (.slice (some ⟨g, 0, none⟩) n cap) n (xs.set k u) := by
  obtain ⟨A', cap', he, hl, ⟨h1, h2⟩ | ⟨g', cur, hA, hf, hh, h1, h2, h3, h4⟩⟩ := h
  · refine ⟨_, _, he, by simpa using hl, .inl ⟨h1, h2⟩⟩
  · injection he with he _ hc
    subst he hc
    injection hA with hA
    injection hA with hA
    subst hA
    refine ⟨_, _, rfl, by simpa using hl, .inr ⟨g, cur.setIfInBounds k u, rfl, hf, ?_, h1, h2, by simpa using h3, ?_⟩⟩
    · simp [World.setCell, Array.getElem?_modify, hh]
    · rw [Array.toList_setIfInBounds, List.take_set, h4]
/-- Another block is written. -/
theorem Vec.far (h : Vec w F e size v n xs) {p : Addr} {t : TypeId} {cs : Array Value} {fz : Nat × Nat} (hp : w.heap[p.block]? = some (.cells cs t fz)) (hne : t ≠ e) (u : Value) : Vec (w.setCell p u) F e size v n xs :=
  h.heap fun g cs' hg => (Below.heap_setCell w p u g (by
    rintro rfl
    rw [hp] at hg
    injection hg with hg
    injection hg with _ hg
    exact hne hg)).trans hg
theorem Vec.far_ (h : Vec w F e size v n xs) {p : Addr} (hp : ∀ cs : Array Value, w.heap[p.block]? ≠ some (Obj.cells cs e (0, 0))) (u : Value) : Vec (w.setCell p u) F e size v n xs :=
  h.heap fun g cs' hg => (Below.heap_setCell w p u g (by
    rintro rfl
    exact hp _ hg)).trans hg
end
section
variable {P : Program} {F : Nat → Prop} {w : World} {e : TypeId} {size n : Nat} {v : Value} {xs : List Value}
/-- 'append' onto such a slice. -/
theorem run_append_vec (t ty : TypeId) (bytes : Nat) (z : Value) (T : ElTy P t e size bytes z) (hv : Vec w F e size v n xs)
    (ad : Addr) (m d : Nat) (news : List Value) (hl : news.length = m * size) (hnews : ∀ j u, news[j]? = some u → w.cell? (ad.add j) = some u) (h1 : ∀ u ∈ news, u.oneCell' = true)
    (hm : n + m ≤ maxLen) (hbytes : (n + m) * bytes ≤ 140737488355328) :
    ∃ v' w' row, (Builtin.append_ #[t, t] ty #[v, .slice (some ad) m d]).run P w = .ok v' w' ∧ Vec w' (Grow F w w') e size v' (n + m) (xs ++ news) ∧ w.grownBy w' row ∧
      (row = none ∨ ∃ g cs, row = some g ∧ F g ∧ w.heap[g]? = some (.cells cs e (0, 0))) := by
  obtain ⟨i, hi, hz, hs, hby⟩ := T.info
  obtain ⟨A, cap, rfl, hlen, ⟨rfl, rfl⟩ | ⟨g, cur, rfl, hf, hh, hnc, hcm, hcs, htk⟩⟩ := hv
  · have hx : xs = [] := List.eq_nil_of_length_eq_zero (by simpa using hlen)
    subst hx
    rcases A with _ | ⟨ad0⟩
    · obtain ⟨v', w', hrun, h2, h3, _, h5⟩ := run_append_own_at (P := P) w w.heap.size t ty e i z size bytes T.ht hi hz hs hby T.hz T.h0 (.slice none 0 0) 0 [] (World.ownsRow_nil w _ e size) ad m d news hl hnews h1 (by omega) (by simpa using hbytes) (Nat.le_refl _)
      have hA : ∃ A' c', v' = .slice A' (0 + m) c' := by
        rcases h2.2 with ⟨h, h0⟩ | ⟨g, cap, cur, h, _⟩
        · exact ⟨none, 0, by rw [h, h0]⟩
        · exact ⟨_, _, h⟩
      obtain ⟨A', c', rfl⟩ := hA
      exact ⟨_, w', none, hrun, Vec.of_own h2 (fun g hg hg' => .inr ⟨hg, hg'⟩), h3, .inl rfl⟩
    · by_cases hm0 : m = 0
      · subst hm0
        have hn : news = [] := List.eq_nil_of_length_eq_zero (by simpa using hl)
        subst hn
        refine ⟨.slice (some ad0) 0 0, w, none, ?_, Vec.nil_ _ _ _ _ _, World.grownBy.refl w _, .inl rfl⟩
        simp [Builtin.append_, run_underlying T.ht, sizeOf, typeInfo, hi, Builtin.lenOf, Builtin.firstCells, loadCells, loadCellsFrom, storeCells]
      · subst hs hby
        have hr := run_append_grow (P := P) w t ty e i z T.ht hi hz ad0 0 0 [] (by simp) (by simp) ad m d news hl hnews (by omega) (by unfold maxLen at hm; omega) (growslice_fits (by omega) (by simpa using hbytes))
        refine ⟨_, _, none, hr, ?_, ⟨rfl, rfl, rfl, by simp, fun k hk _ => Below.heap_alloc w.drew _ k hk⟩, .inl rfl⟩
        have hge := grownCap_ge w (0 + m) 0 e
        have hcm : grownCap w (0 + m) 0 e ≤ maxLen := grownCap_le_maxLen w (0 + m) 0 e hm
        refine ⟨_, _, rfl, by simpa using hl, .inr ⟨w.heap.size, _, rfl, .inr ⟨Nat.le_refl _, by simp⟩, heap_alloc_new w.drew _, hge, hcm, ?_, ?_⟩⟩
        · simp only [Array.size_append, List.size_toArray, size_zeroCells, T.hz, hl, List.length_nil, Nat.zero_add, ← Nat.add_mul]
          congr 1
          simp only [Nat.zero_add] at hge ⊢
          omega
        · simp only [Array.toList_append, List.nil_append, Nat.zero_add]
          rw [← hl]
          exact List.take_left
  · obtain ⟨v', w', hrun, h2, h3, _, h5⟩ := run_append_own_at (P := P) w (min g w.heap.size) t ty e i z size bytes T.ht hi hz hs hby T.hz T.h0 (.slice (some ⟨g, 0, none⟩) n cap) n xs
      ⟨hlen, .inr ⟨g, cap, cur, rfl, Nat.min_le_left _ _, hh, hnc, hcm, hcs, htk⟩⟩ ad m d news hl hnews h1 hm hbytes (Nat.min_le_right _ _)
    refine ⟨v', w', some g, hrun, ?_, h3, .inr ⟨g, cur, rfl, hf, hh⟩⟩
    rcases h2.2 with ⟨h, h0⟩ | ⟨g', cap', cur', h, _, hh', hr⟩
    · subst h
      exact ⟨none, 0, by rw [h0], h2.1, .inl ⟨h0, rfl⟩⟩
    · subst h
      refine ⟨_, _, rfl, h2.1, .inr ⟨g', cur', rfl, ?_, hh', hr⟩⟩
      have hlt := (Array.getElem?_eq_some_iff.1 hh').1
      rcases h5 with h5 | h5
      · simp [Value.ownBlock] at h5
        subst h5
        exact .inl hf
      · simp [Value.ownBlock] at h5
        subst h5
        exact .inr ⟨Nat.le_refl _, hlt⟩
theorem wpList_append_vec {ops : Array Oper} {rest : List Oper} {o : Oper} {a : Act} {Q : Exit → Act → World → Prop} (hgd : o.guard = none) (s x : Operand) (t : TypeId)
    (ho : o.op = .call { callee := .builtin .append, args := #[s, x], argTypes := #[t, t] }) (bytes : Nat) (z : Value) (T : ElTy P t e size bytes z)
    (hs : a.eval s = v) (hv : Vec w F e size v n xs)
    (ad : Addr) (m d : Nat) (news : List Value) (hx : a.eval x = .slice (some ad) m d) (hl : news.length = m * size) (hnews : ∀ j u, news[j]? = some u → w.cell? (ad.add j) = some u) (h1 : ∀ u ∈ news, u.oneCell' = true)
    (hm : n + m ≤ maxLen) (hbytes : (n + m) * bytes ≤ 140737488355328)
    (h : ∀ v' w' row, Vec w' (Grow F w w') e size v' (n + m) (xs ++ news) → w.grownBy w' row → (row = none ∨ ∃ g cs, row = some g ∧ F g ∧ w.heap[g]? = some (.cells cs e (0, 0))) →
      wpList P ops Q rest (a.put o.dst v') w') : wpList P ops Q (o :: rest) a w :=
  wpList_plain hgd fun _ hK => by
    obtain ⟨v', w', row, hrun, h2, h3, h4⟩ := run_append_vec (P := P) t o.type bytes z T hv ad m d news hl hnews h1 hm hbytes
    unfold Oper.wp execOp
    simp only [ho, resolve, invoke, builtin, Sem.run_bind, Sem.run_pure, Result.andThen_ok, List.map_toArray, List.map_cons, List.map_nil, hs, hx, hrun]
    exact hK _ _ (h v' w' row h2 h3 h4)
end
/-- Rows of so many cells each, one behind the other. -/
theorem flat_get {size : Nat} : ∀ (rows : List (List Value)), (∀ r ∈ rows, r.length = size) → ∀ (k j : Nat) (r : List Value), rows[k]? = some r → j < size → rows.flatten[k * size + j]? = r[j]?
  | [], _, k, j, r, h, _ => by simp at h
  | r0 :: rows, hl, 0, j, r, h, hj => by
    simp at h
    subst h
    have := hl r0 (by simp)
    rw [List.flatten_cons, Nat.zero_mul, Nat.zero_add, List.getElem?_append_left (by omega)]
  | r0 :: rows, hl, k + 1, j, r, h, hj => by
    simp at h
    have h0 := hl r0 (by simp)
    rw [List.flatten_cons, List.getElem?_append_right (by rw [h0, Nat.add_mul]; omega), h0, show (k + 1) * size + j - size = k * size + j by rw [Nat.add_mul]; omega]
    exact flat_get rows (fun r hr => hl r (by simp [hr])) k j r h hj
theorem flat_len {size : Nat} : ∀ (rows : List (List Value)), (∀ r ∈ rows, r.length = size) → rows.flatten.length = rows.length * size
  | [], _ => by simp
  | r0 :: rows, hl => by
    rw [List.flatten_cons, List.length_append, flat_len rows (fun r hr => hl r (by simp [hr])), hl r0 (by simp), List.length_cons, Nat.add_mul]
    omega
theorem flat_set {size : Nat} : ∀ (rows : List (List Value)), (∀ r ∈ rows, r.length = size) → ∀ (k j : Nat) (r : List Value) (u : Value), rows[k]? = some r → j < size → rows.flatten.set (k * size + j) u = (rows.set k (r.set j u)).flatten
  | [], _, k, j, r, u, h, _ => by simp at h
  | r0 :: rows, hl, 0, j, r, u, h, hj => by
    simp at h
    subst h
    have := hl r0 (by simp)
    rw [List.flatten_cons, Nat.zero_mul, Nat.zero_add, List.set_append_left _ _ (by omega), List.set_cons_zero, List.flatten_cons]
  | r0 :: rows, hl, k + 1, j, r, u, h, hj => by
    simp at h
    have h0 := hl r0 (by simp)
    rw [List.flatten_cons, List.set_append_right _ _ (by rw [h0, Nat.add_mul]; omega), h0, show (k + 1) * size + j - size = k * size + j by rw [Nat.add_mul]; omega,
      flat_set rows (fun r hr => hl r (by simp [hr])) k j r u h hj, List.set_cons_succ, List.flatten_cons]
end Go.Proofs.YtloffgoenaomkaaDoor.Mem
/- A plant in plain terms: devices, what waits, power, clock. No program. -/
namespace Go.Proofs.YtloffgoenaomkaaDoor.Pl
open Go Go.RowKit Mem
def zeros : List UInt8 := List.replicate 64 0
theorem zeros_len : zeros.length = 64 := by simp [zeros]
/-- A write that waits. -/
structure Wr where
  dev : Nat
  place : Nat
  b : List UInt8
/-- A disk or a tape, and what it has for good. -/
structure Dev where
  tape : Bool
  most : Nat
  has : List (List UInt8)
structure PM where
  disks : List Nat
  tapes : List Nat
  devs : List Dev
  waits : List Wr
  off : Bool
  fuse : Option Nat
  steps : Nat
  now : Nat
def PM.fuseI (p : PM) : Int := match p.fuse with
  | none => -1
  | some n => (n : Int)
/-- How many writes wait for a device. -/
def cnt (ws : List Wr) (i : Nat) : Nat := ws.countP fun x => x.dev == i
def Dev.size (d : Dev) (ws : List Wr) (i : Nat) : Nat := if d.tape then d.has.length + cnt ws i else d.most
/-- What is read at a place. -/
def lastW (ws : List Wr) (i k : Nat) (b : List UInt8) : List UInt8 := ws.foldl (fun b x => if x.dev = i ∧ x.place = k then x.b else b) b
def Dev.at_ (d : Dev) (k : Nat) : List UInt8 := d.has.getD k zeros
/-- A device's number, if it is one. -/
def PM.num (p : PM) (i : Int) : Option Nat := if 0 ≤ i ∧ i < p.devs.length then some i.toNat else none
def PM.len (p : PM) (i : Int) : Int × Int := match p.num i with
  | none => (0, 31)
  | some j => match p.devs[j]? with
    | none => (0, 31)
    | some d => (d.size p.waits j, 0)
def PM.read (p : PM) (i k : Int) : Option (List UInt8) × Int :=
  if p.off then (none, 2) else match p.num i with
  | none => (none, 31)
  | some j => match p.devs[j]? with
    | none => (none, 31)
    | some d => if 0 ≤ k ∧ k < d.size p.waits j then (some (lastW p.waits j k.toNat (d.at_ k.toNat)), 0) else (none, 31)
def PM.step (p : PM) : PM × Bool := match p.fuse with
  | some 0 => ({ p with off := true, fuse := none }, false)
  | some (n + 1) => ({ p with fuse := some n, steps := p.steps + 1 }, true)
  | none => ({ p with steps := p.steps + 1 }, true)
def PM.give (p : PM) (i k : Nat) (b : List UInt8) : PM × Int :=
  if p.step.2 then ({ p.step.1 with waits := p.step.1.waits ++ [⟨i, k, b⟩] }, 0) else (p.step.1, 2)
def PM.write (p : PM) (i k : Int) (b : List UInt8) : PM × Int :=
  if p.off then (p, 2) else match p.num i with
  | none => (p, 31)
  | some j => match p.devs[j]? with
    | none => (p, 31)
    | some d => if d.tape = true ∨ ¬ (0 ≤ k ∧ k < d.most) then (p, 31) else if b.length ≠ 64 then (p, 32) else p.give j k.toNat b
def PM.append (p : PM) (i : Int) (b : List UInt8) : PM × Int × Int :=
  if p.off then (p, 0, 2) else match p.num i with
  | none => (p, 0, 31)
  | some j => match p.devs[j]? with
    | none => (p, 0, 31)
    | some d => if d.tape = false then (p, 0, 31) else if b.length ≠ 64 then (p, 0, 32) else if d.size p.waits j = d.most then (p, 0, 3) else
      if (p.give j (d.size p.waits j) b).2 = 0 then ((p.give j (d.size p.waits j) b).1, (d.size p.waits j : Int), 0) else ((p.give j (d.size p.waits j) b).1, 0, 2)
/-- A write lasts. -/
def Dev.settle (d : Dev) (k : Nat) (b : List UInt8) : Dev := if d.tape then { d with has := d.has ++ [b] } else { d with has := d.has.set k b }
def settle (ds : List Dev) (x : Wr) : List Dev := ds.modify x.dev fun d => d.settle x.place x.b
def PM.flush (p : PM) (i : Int) : PM × Int :=
  if p.off then (p, 2) else match p.num i with
  | none => (p, 31)
  | some j => if p.step.2 then ({ p.step.1 with devs := (p.waits.filter fun x => x.dev == j).foldl settle p.devs, waits := p.waits.filter fun x => !(x.dev == j) }, 0) else (p.step.1, 2)
def PM.setFuse (p : PM) (n : Int) : PM := if p.off then p else { p with fuse := if n < 0 then none else some n.toNat }
def keepAt (keep : List Int) (i : Nat) : Int := if keep.length = 0 then 0 else keep.getD (i % keep.length) 0
/-- A torn sector: its last half is noughts. -/
def torn (b : List UInt8) : List UInt8 := b.take 32 ++ List.replicate 32 0
/-- A boot's round: what of a write lasts; 'ended': of which tapes no more. -/
def bootStep (keep : List Int) (s : List Dev × List Nat) (i : Nat) (x : Wr) : List Dev × List Nat :=
  if s.2.contains x.dev then s else
  let tape := (s.1[x.dev]?).any (·.tape)
  let k := keepAt keep i
  if k % 2 ≠ 0 then (settle s.1 x, s.2)
  else if tape then (if k % 4 = 2 then settle s.1 { x with b := torn x.b } else s.1, s.2 ++ [x.dev])
  else s
def bootGo (keep : List Int) : Nat → List Wr → List Dev × List Nat → List Dev × List Nat
  | _, [], s => s
  | i, x :: ws, s => bootGo keep (i + 1) ws (bootStep keep s i x)
def PM.boot (p : PM) (keep : List Int) : PM :=
  { p with devs := (bootGo keep 0 p.waits (p.devs, [])).1, waits := [], off := false, fuse := none }
def PM.rot (p : PM) (i k at_ : Int) (x : UInt8) : PM × Bool := match p.num i with
  | none => (p, false)
  | some j => match p.devs[j]? with
    | none => (p, false)
    | some d => if 0 ≤ k ∧ 0 ≤ at_ ∧ at_ < 64 ∧ k < d.has.length then
        ({ p with devs := p.devs.set j { d with has := d.has.set k.toNat ((d.at_ k.toNat).set at_.toNat (((d.at_ k.toNat).getD at_.toNat 0) ^^^ x)) } }, true) else (p, false)
def PM.tick (p : PM) (n : Int) : PM := if 0 < n then { p with now := p.now + min n.toNat (1099511627776 - p.now) } else p
/-- A new plant. -/
def newDevs (disks tapes : List Nat) : List Dev := disks.map (fun n => ⟨false, n, List.replicate n zeros⟩) ++ tapes.map fun n => ⟨true, n, []⟩
def newM (disks tapes : List Int) : Option PM :=
  if disks.length + tapes.length = 0 ∨ 12 < disks.length + tapes.length ∨ (disks ++ tapes).any (fun n => n < 1 || 4096 < n) then none
  else some { disks := disks.map Int.toNat, tapes := tapes.map Int.toNat, devs := newDevs (disks.map Int.toNat) (tapes.map Int.toNat), waits := [], off := false, fuse := none, steps := 0, now := 0 }
/-- What is so of every plant. -/
structure PM.Ok (p : PM) : Prop where
  n1 : 1 ≤ p.devs.length
  n12 : p.devs.length ≤ 12
  shape : p.devs.length = p.disks.length + p.tapes.length
  tape : ∀ (i : Nat) (d : Dev), p.devs[i]? = some d → d.tape = decide (p.disks.length ≤ i)
  most : ∀ (i : Nat) (d : Dev), p.devs[i]? = some d → (p.disks ++ p.tapes)[i]? = some d.most ∧ 1 ≤ d.most ∧ d.most ≤ 4096
  disk : ∀ (i : Nat) (d : Dev), p.devs[i]? = some d → d.tape = false → d.has.length = d.most
  room : ∀ (i : Nat) (d : Dev), p.devs[i]? = some d → d.tape = true → d.has.length + cnt p.waits i ≤ d.most
  sec : ∀ (i : Nat) (d : Dev) b, p.devs[i]? = some d → b ∈ d.has → b.length = 64
  wdev : ∀ x ∈ p.waits, x.dev < p.devs.length
  wlen : ∀ x ∈ p.waits, x.b.length = 64
  wplace : ∀ x ∈ p.waits, ∀ d, p.devs[x.dev]? = some d → x.place < d.most
  wtape : ∀ (i : Nat) (d : Dev), p.devs[i]? = some d → d.tape = true → (p.waits.filter fun x => x.dev == i).map (·.place) = List.range' d.has.length (cnt p.waits i)
  now : p.now ≤ 1099511627776
  fuse : p.fuseI < 9223372036854775808
theorem PM.num_some {p : PM} {i : Int} {j : Nat} (h : p.num i = some j) : i = (j : Int) ∧ j < p.devs.length := by
  unfold PM.num at h
  split at h
  · injection h with h
    omega
  · cases h
theorem PM.num_none {p : PM} {i : Int} (h : p.num i = none) : i < 0 ∨ (p.devs.length : Int) ≤ i := by
  unfold PM.num at h
  split at h
  · cases h
  · omega
theorem PM.num_nat {p : PM} {j : Nat} (h : j < p.devs.length) : p.num j = some j := by
  unfold PM.num
  rw [if_pos (by omega)]
  simp
theorem PM.Ok.at_len {p : PM} (h : p.Ok) {i : Nat} {d : Dev} (hd : p.devs[i]? = some d) (k : Nat) : (d.at_ k).length = 64 := by
  unfold Dev.at_
  rw [List.getD_eq_getElem?_getD]
  cases hk : d.has[k]? with
  | none => exact zeros_len
  | some b => exact h.sec i d b hd (List.mem_of_getElem? hk)
theorem lastW_len {i k : Nat} : ∀ (ws : List Wr) (b : List UInt8), (∀ x ∈ ws, x.b.length = 64) → b.length = 64 → (lastW ws i k b).length = 64
  | [], b, _, hb => hb
  | x :: ws, b, h, hb => by
    unfold lastW
    rw [List.foldl_cons]
    refine lastW_len ws _ (fun y hy => h y (by simp [hy])) ?_
    split
    · exact h x (by simp)
    · exact hb
theorem lastW_snoc (ws : List Wr) (x : Wr) (i k : Nat) (b : List UInt8) : lastW (ws ++ [x]) i k b = if x.dev = i ∧ x.place = k then x.b else lastW ws i k b := by
  unfold lastW
  rw [List.foldl_append]
  rfl
theorem cnt_snoc (ws : List Wr) (x : Wr) (i : Nat) : cnt (ws ++ [x]) i = cnt ws i + if x.dev = i then 1 else 0 := by
  unfold cnt
  rw [List.countP_append, List.countP_singleton]
  simp
theorem Dev.size_le {p : PM} (h : p.Ok) {i : Nat} {d : Dev} (hd : p.devs[i]? = some d) : d.size p.waits i ≤ d.most := by
  unfold Dev.size
  split
  · rename_i ht
    exact h.room i d hd ht
  · exact Nat.le_refl _
end Go.Proofs.YtloffgoenaomkaaDoor.Pl
/- A plant in memory: its block, its shape, its devices with a map of sectors each, what waits. No function is walked here. -/
namespace Go.Proofs.YtloffgoenaomkaaDoor.Pl
open Go Go.RowKit Mem
theorem cellsOf_inj {a b : List UInt8} (h : cellsOf a = cellsOf b) : a = b := by
  unfold cellsOf at h
  injection h with h
  exact (List.map_inj_right (fun x y e => by unfold B8 at e; injection e with _ e; exact V8_inj.1 e)).1 h
/-- How a sector's cells read. -/
noncomputable def secR (v : Value) : Option (DataW Unit × List MemPlace) :=
  open Classical in if h : ∃ bs : List UInt8, bs.length = 64 ∧ v = .agg (cellsOf bs) then some (.lit (.string (Classical.choose h)), []) else none
theorem secR_mk {bs : List UInt8} (h : bs.length = 64) : secR (.agg (cellsOf bs)) = some (.lit (.string bs), []) := by
  have hx : ∃ b : List UInt8, b.length = 64 ∧ Value.agg (cellsOf bs) = .agg (cellsOf b) := ⟨bs, h, rfl⟩
  unfold secR
  rw [dif_pos hx]
  have e := (Classical.choose_spec hx).2
  injection e with e
  rw [← cellsOf_inj e]
theorem secR_inv {v : Value} {z : DataW Unit × List MemPlace} (h : secR v = some z) : ∃ bs : List UInt8, bs.length = 64 ∧ v = .agg (cellsOf bs) ∧ z = (.lit (.string bs), []) := by
  unfold secR at h
  split at h
  · rename_i hx
    injection h with h
    exact ⟨_, (Classical.choose_spec hx).1, (Classical.choose_spec hx).2, h.symm⟩
  · cases h
theorem keyed : Maps.Keyed Tryd.prog 3 := Maps.int_keyed Tryd.underlying3
theorem wf_nat {k : Nat} (h : k < 9223372036854775808) : (Lit.int .i64 (k : Int)).wf = true := WalkArith.wf_i64 (by omega)
theorem keyOf_nat {k : Nat} (h : k < 9223372036854775808) : keyOf Tryd.prog 3 (.int .i64 (k : Int)) = some (.int .i64 (k : Int)) := Maps.keyOf_int_mk Tryd.underlying3 (wf_nat h)
/-- Numbers below n, none of them twice. -/
theorem pigeon : ∀ (n : Nat) (l : List Nat), l.Nodup → (∀ x ∈ l, x < n) → l.length ≤ n
  | 0, l, _, h => by
    cases l with
    | nil => simp
    | cons x l => exact absurd (h x (by simp)) (by omega)
  | n + 1, l, hn, h => by
    have h1 := pigeon n (l.filter fun x => x != n) (hn.filter _) (fun x hx => by
      have h2 := List.mem_filter.1 hx
      have h3 := h x h2.1
      have h4 : x ≠ n := by simpa using h2.2
      omega)
    have h2 : l.length = (l.filter fun x => x != n).length + l.countP fun x => decide ¬(x != n) = true := by
      rw [← List.countP_eq_length_filter]
      exact List.length_eq_countP_add_countP _
    have h3 : (l.countP fun x => decide ¬(x != n) = true) ≤ 1 := by
      have : (l.countP fun x => decide ¬(x != n) = true) = l.count n := by
        unfold List.count
        refine List.countP_congr fun x _ => ?_
        simp
      rw [this]
      exact List.nodup_iff_count.1 hn n
    omega
/-- Block b is a map from numbers to sectors; f is what is there (noughts, if nothing). -/
def SecMap (w : World) (b : Nat) (f : Nat → List UInt8) : Prop :=
  ∃ D : DataW Unit, w.ownsMap Tryd.prog 3 secR b 4096 D ∧ (∀ k, Maps.has D k = true → ∃ j : Nat, j < 4096 ∧ k = .int .i64 (j : Int)) ∧ ∀ j : Nat, D.atKey (.int .i64 (j : Int)) (.lit (.string zeros)) = .lit (.string (f j))
theorem SecMap.lt {w : World} {b : Nat} {f : Nat → List UInt8} (h : SecMap w b f) : b < w.heap.size := by obtain ⟨D, h, _⟩ := h; exact h.lt
theorem SecMap.obj {w : World} {b : Nat} {f : Nat → List UInt8} (h : SecMap w b f) : ∃ es clock, w.heap[b]? = some (.map es clock) := by
  obtain ⟨D, ⟨es, clock, hb, _⟩, _⟩ := h
  exact ⟨es, clock, hb⟩
theorem SecMap.heap {w w' : World} {b : Nat} {f : Nat → List UInt8} (h : SecMap w b f) (hk : w'.heap[b]? = w.heap[b]?) : SecMap w' b f := by
  obtain ⟨D, ⟨es, clock, hb, hr⟩, h2⟩ := h
  exact ⟨D, ⟨es, clock, hk.trans hb, hr⟩, h2⟩
theorem SecMap.mods {w w' : World} {b : Nat} {f : Nat → List UInt8} {B : Nat} {F : Nat → Prop} (h : SecMap w b f) (hm : Mods B F w w') (hB : b < B) (hF : ¬ F b) : SecMap w' b f := h.heap (hm.keep b hB hF)
theorem SecMap.ext {w : World} {b : Nat} {f g : Nat → List UInt8} (h : SecMap w b f) (e : ∀ j, f j = g j) : SecMap w b g := by
  have : f = g := funext e
  rwa [← this]
theorem SecMap.made (w : World) : SecMap (w.alloc (.map #[] 0)) w.heap.size fun _ => zeros :=
  ⟨.map [], (World.ownsMap_made w _ _ _).mono (Nat.zero_le _), fun k hk => by simp [Maps.has] at hk, fun j => rfl⟩
theorem SecMap.made_at (w : World) (n : Nat) (hn : w.heap.size = n) : SecMap (w.alloc (.map #[] 0)) n fun _ => zeros := by subst hn; exact SecMap.made w
theorem zeroSec (w : World) : (zeroValue 115).run Tryd.prog w = .ok (.agg (cellsOf zeros)) w := by
  have h : (Tryd.prog.info? 115).map (·.zero) = some (some (.agg (cellsOf zeros))) := by kernel_rfl
  cases hi : Tryd.prog.info? 115 with
  | none => rw [hi] at h; cases h
  | some i =>
    rw [hi] at h
    simp only [Option.map_some, Option.some.injEq] at h
    simp [zeroValue, typeInfo, hi, h, program, Sem.run]
theorem SecMap.run_lookup {w : World} {b : Nat} {f : Nat → List UInt8} (h : SecMap w b f) {k : Nat} (hk : k < 9223372036854775808) :
    (Instr.lookup 84 (.map (some b)) (.int .i64 (k : Int)) false).run Tryd.prog w = .ok (.agg (cellsOf (f k))) w ∧ (f k).length = 64 := by
  obtain ⟨D, ho, _, hat⟩ := h
  obtain ⟨v, ps, hrun, hv⟩ := ho.lookup keyed Tryd.underlying84 (zeroSec w) (secR_mk zeros_len) (keyOf_nat hk)
  rw [hat k] at hv
  obtain ⟨bs, h64, rfl, he⟩ := secR_inv hv
  injection he with he _
  injection he with he
  injection he with he
  rw [he]
  exact ⟨hrun, h64⟩
theorem SecMap.run_update {w : World} {b : Nat} {f : Nat → List UInt8} (h : SecMap w b f) {k : Nat} (hk : k < 4096) {bs : List UInt8} (hb : bs.length = 64) :
    ∃ w', (Instr.mapUpdate 84 (.map (some b)) (.int .i64 (k : Int)) (.agg (cellsOf bs))).run Tryd.prog w = .ok () w' ∧ SecMap w' b (fun j => if j = k then bs else f j) ∧ w.grownBy w' (some b) := by
  obtain ⟨D, ho, hkeys, hat⟩ := h
  have hkk := keyOf_nat (k := k) (by omega)
  obtain ⟨w', hrun, ho', hg⟩ := ho.update keyed Tryd.underlying84 (by unfold maxLen; omega) hkk (secR_mk hb)
  have hm : Maps.IsMap D := by obtain ⟨es, e, _⟩ := ho.entries keyed; exact ⟨es, e⟩
  have hlk : WideAt.IsKeyLit (.int .i64 (k : Int)) := keyed.key hkk
  have hkeys' : ∀ x, Maps.has (D.put (.int .i64 (k : Int)) (.lit (.string bs))) x = true → ∃ j : Nat, j < 4096 ∧ x = .int .i64 (j : Int) := fun x hx => by
    by_cases e : x = .int .i64 (k : Int)
    · exact ⟨k, hk, e⟩
    · rw [Maps.has_put_other e] at hx
      exact hkeys x hx
  refine ⟨w', hrun, ⟨_, ?_, hkeys', fun j => ?_⟩, hg⟩
  · obtain ⟨es, clock, hh, F, _, hD⟩ := ho'
    refine ⟨es, clock, hh, F, ?_, hD⟩
    have hl : es.size = (((es.toList.map (WideElems.rg Tryd.prog 3 secR)).foldr DataW.insert []).length) := by rw [length_sorted]; simp
    have ho2 : w'.ownsMap Tryd.prog 3 secR b es.size (D.put (.int .i64 (k : Int)) (.lit (.string bs))) := ⟨es, clock, hh, F, Nat.le_refl _, hD⟩
    obtain ⟨l, hl1, hap, hlits⟩ := ho2.entries keyed
    have hll : l = (es.toList.map (WideElems.rg Tryd.prog 3 secR)).foldr DataW.insert [] := by
      rw [hl1] at hD
      injection hD
    rw [hl, ← hll]
    have hin : ∀ p ∈ l, ∃ j : Nat, j < 4096 ∧ p.1 = .int .i64 (j : Int) := fun p hp => hkeys' p.1 (by
      rw [hl1, Maps.has_eq, List.any_eq_true]
      exact ⟨p, hp, WideAt.sameKey_self (hlits p hp)⟩)
    have := pigeon 4096 (l.map fun p => match p.1 with | .int _ n => n.toNat | _ => 0) (by
      refine List.pairwise_map.2 (List.Pairwise.imp_of_mem (fun {a b} ha hb hne => ?_) hap)
      obtain ⟨i, _, hi⟩ := hin a ha
      obtain ⟨j, _, hj⟩ := hin b hb
      rw [hi, hj] at hne ⊢
      simp at hne ⊢
      omega) (fun x hx => by
      obtain ⟨p, hp, rfl⟩ := List.mem_map.1 hx
      obtain ⟨j, hj, e⟩ := hin p hp
      rw [e]
      simpa using hj)
    simpa using this
  · by_cases e : j = k
    · subst e
      rw [Maps.atKey_put_same hm hlk]
      simp
    · rw [Maps.atKey_put_other (by
        intro h
        injection h with _ h
        omega), hat j]
      simp [e]
/-- A device's cells: how many of its blocks wait is handed in. -/
def devRow (d : Dev) (m wc : Nat) : List Value := [.bool d.tape, .int .i64 (d.most : Int), .map (some m), .int .i64 ((if d.tape then d.has.length else 0 : Nat) : Int), .int .i64 (wc : Int)]
def devRows (wc : Nat → Nat) : Nat → List Dev → List Nat → List (List Value)
  | i, d :: ds, m :: ms => devRow d m (wc i) :: devRows wc (i + 1) ds ms
  | _, _, _ => []
theorem devRows_len (wc : Nat → Nat) : ∀ (i : Nat) (ds : List Dev) (ms : List Nat), ms.length = ds.length → (devRows wc i ds ms).length = ds.length
  | i, [], ms, h => by simp [devRows]
  | i, d :: ds, [], h => by simp at h
  | i, d :: ds, m :: ms, h => by simp [devRows]; exact devRows_len wc (i + 1) ds ms (by simpa using h)
theorem devRows_five (wc : Nat → Nat) : ∀ (i : Nat) (ds : List Dev) (ms : List Nat), ∀ r ∈ devRows wc i ds ms, r.length = 5
  | i, [], ms, r, h => by simp [devRows] at h
  | i, d :: ds, [], r, h => by simp [devRows] at h
  | i, d :: ds, m :: ms, r, h => by
    simp [devRows] at h
    rcases h with rfl | h
    · rfl
    · exact devRows_five wc (i + 1) ds ms r h
theorem devRows_get (wc : Nat → Nat) : ∀ (i : Nat) (ds : List Dev) (ms : List Nat) (k : Nat) (d : Dev) (m : Nat), ds[k]? = some d → ms[k]? = some m → (devRows wc i ds ms)[k]? = some (devRow d m (wc (i + k)))
  | i, [], ms, k, d, m, h, _ => by simp at h
  | i, d0 :: ds, [], k, d, m, _, h => by simp at h
  | i, d0 :: ds, m0 :: ms, 0, d, m, h, h' => by simp at h h'; subst h h'; rfl
  | i, d0 :: ds, m0 :: ms, k + 1, d, m, h, h' => by
    simp at h h'
    have := devRows_get wc (i + 1) ds ms k d m h h'
    simp only [devRows, List.getElem?_cons_succ]
    rw [this, show i + 1 + k = i + (k + 1) by omega]
theorem devRows_set (wc wc' : Nat → Nat) (d : Dev) : ∀ (i : Nat) (ds : List Dev) (ms : List Nat) (k m : Nat), k < ds.length → ms[k]? = some m → (∀ j, j ≠ i + k → wc' j = wc j) →
    devRows wc' i (ds.set k d) ms = (devRows wc i ds ms).set k (devRow d m (wc' (i + k)))
  | i, [], ms, k, m, h, _, _ => by simp at h
  | i, d0 :: ds, [], k, m, _, h, _ => by simp at h
  | i, d0 :: ds, m0 :: ms, 0, m, h, h', hw => by
    simp at h'
    subst h'
    simp only [List.set_cons_zero, devRows, Nat.add_zero, List.cons.injEq, true_and]
    have : ∀ (j : Nat) (ds : List Dev) (ms : List Nat), i < j → devRows wc' j ds ms = devRows wc j ds ms := by
      intro j ds
      induction ds generalizing j with
      | nil => intro ms _; simp [devRows]
      | cons d ds ih =>
        intro ms hj
        cases ms with
        | nil => simp [devRows]
        | cons m ms => simp only [devRows, hw j (by omega), ih (j + 1) ms (by omega)]
    exact this (i + 1) ds ms (by omega)
  | i, d0 :: ds, m0 :: ms, k + 1, m, h, h', hw => by
    simp at h h'
    simp only [List.set_cons_succ, devRows, hw i (by omega)]
    rw [devRows_set wc wc' d (i + 1) ds ms k m h h' (fun j hj => hw j (by omega)), show i + 1 + k = i + (k + 1) by omega]
theorem devRows_snoc (wc : Nat → Nat) (d : Dev) (m : Nat) : ∀ (i : Nat) (ds : List Dev) (ms : List Nat), ms.length = ds.length → devRows wc i (ds ++ [d]) (ms ++ [m]) = devRows wc i ds ms ++ [devRow d m (wc (i + ds.length))]
  | i, [], [], _ => by simp [devRows]
  | i, [], _ :: _, h => by simp at h
  | i, _ :: _, [], h => by simp at h
  | i, d0 :: ds, m0 :: ms, h => by
    simp only [List.cons_append, devRows, List.length_cons]
    rw [devRows_snoc wc d m (i + 1) ds ms (by simpa using h), show i + 1 + ds.length = i + (ds.length + 1) by omega]
/-- The devices: rows behind the slice V, and a map for each. -/
def DevsAt (w : World) (F : Nat → Prop) (V : Value) (ds : List Dev) (wc : Nat → Nat) : Prop :=
  ∃ ms : List Nat, Vec w F 86 5 V ds.length (devRows wc 0 ds ms).flatten ∧ ms.length = ds.length ∧ ms.Nodup ∧ ∀ (i : Nat) (d : Dev) (m : Nat), ds[i]? = some d → ms[i]? = some m → SecMap w m d.at_ ∧ F m
def wrRow (x : Wr) : List Value := .int .i64 (x.dev : Int) :: .int .i64 (x.place : Int) :: x.b.map B8
/-- What waits. -/
def WaitsAt (w : World) (F : Nat → Prop) (W : Value) (ws : List Wr) : Prop := Vec w F 117 66 W ws.length (ws.map wrRow).flatten
def natV (n : Nat) : Value := .int .i64 (n : Int)
def wcOf (p : PM) (i : Nat) : Nat := if (p.devs[i]?).any (·.tape) then cnt p.waits i else 0
def plCells (D T V W : Value) (p : PM) : List Value := [D, T, V, W, .bool p.off, .int .i64 p.fuseI, .int .i64 (p.steps : Int), .int .i64 (p.now : Int)]
/-- A plant at block a, in blocks of F; wc: how many blocks of each device are said to wait. -/
structure PlantB (w : World) (F : Nat → Prop) (a : Nat) (p : PM) (wc : Nat → Nat) (D T V W : Value) : Prop where
  blk : Blk w a 82 (plCells D T V W p).toArray
  own : F a
  disks : Vec w F 3 1 D p.disks.length (p.disks.map natV)
  tapes : Vec w F 3 1 T p.tapes.length (p.tapes.map natV)
  devs : DevsAt w F V p.devs wc
  waits : WaitsAt w F W p.waits
def PlantAt (w : World) (F : Nat → Prop) (a : Nat) (p : PM) : Prop := ∃ D T V W, PlantB w F a p (wcOf p) D T V W
section
variable {w w' : World} {F G : Nat → Prop} {V W : Value} {ds : List Dev} {wc : Nat → Nat} {ws : List Wr} {a : Nat} {p : PM}
theorem DevsAt.mono (h : DevsAt w F V ds wc) (hF : ∀ g, g < w.heap.size → F g → G g) : DevsAt w G V ds wc := by
  obtain ⟨ms, h1, h2, h3, h4⟩ := h
  exact ⟨ms, h1.mono hF, h2, h3, fun i d m hd hm => ⟨(h4 i d m hd hm).1, hF m (h4 i d m hd hm).1.lt (h4 i d m hd hm).2⟩⟩
theorem DevsAt.mods {B : Nat} (h : DevsAt w F V ds wc) (hm : Mods B G w w') (hn : ∀ g, g < w.heap.size → F g → g < B ∧ ¬ G g) : DevsAt w' F V ds wc := by
  obtain ⟨ms, h1, h2, h3, h4⟩ := h
  refine ⟨ms, h1.mods hm hn, h2, h3, fun i d m hd hm' => ?_⟩
  obtain ⟨h5, h6⟩ := h4 i d m hd hm'
  obtain ⟨h7, h8⟩ := hn m h5.lt h6
  exact ⟨h5.mods hm h7 h8, h6⟩
/-- Blocks of cells of another type, and new ones, may turn. -/
theorem DevsAt.heap (h : DevsAt w F V ds wc) (hk : ∀ (g : Nat) (cs : Array Value), w.heap[g]? = some (Obj.cells cs 86 (0, 0)) → w'.heap[g]? = some (Obj.cells cs 86 (0, 0)))
    (hm : ∀ (g : Nat) (es : Array MapEntry) (c : Nat), w.heap[g]? = some (Obj.map es c) → w'.heap[g]? = some (Obj.map es c)) : DevsAt w' F V ds wc := by
  obtain ⟨ms, h1, h2, h3, h4⟩ := h
  refine ⟨ms, h1.heap hk, h2, h3, fun i d m hd hm' => ?_⟩
  obtain ⟨h5, h6⟩ := h4 i d m hd hm'
  obtain ⟨es, c, he⟩ := h5.obj
  exact ⟨h5.heap ((hm m es c he).trans he.symm), h6⟩
theorem PlantB.mono {D T : Value} (h : PlantB w F a p wc D T V W) (hF : ∀ g, g < w.heap.size → F g → G g) : PlantB w G a p wc D T V W :=
  ⟨h.blk, hF a h.blk.lt h.own, h.disks.mono hF, h.tapes.mono hF, h.devs.mono hF, h.waits.mono hF⟩
theorem PlantB.mods {B : Nat} {D T : Value} (h : PlantB w F a p wc D T V W) (hm : Mods B G w w') (hn : ∀ g, g < w.heap.size → F g → g < B ∧ ¬ G g) : PlantB w' F a p wc D T V W :=
  ⟨h.blk.mods hm (hn a h.blk.lt h.own).1 (hn a h.blk.lt h.own).2, h.own, h.disks.mods hm hn, h.tapes.mods hm hn, h.devs.mods hm hn, h.waits.mods hm hn⟩
theorem PlantAt.mono (h : PlantAt w F a p) (hF : ∀ g, g < w.heap.size → F g → G g) : PlantAt w G a p := by
  obtain ⟨D, T, V, W, h⟩ := h
  exact ⟨D, T, V, W, h.mono hF⟩
theorem PlantAt.mods {B : Nat} (h : PlantAt w F a p) (hm : Mods B G w w') (hn : ∀ g, g < w.heap.size → F g → g < B ∧ ¬ G g) : PlantAt w' F a p := by
  obtain ⟨D, T, V, W, h⟩ := h
  exact ⟨D, T, V, W, h.mods hm hn⟩
theorem PlantAt.below (h : PlantAt w F a p) (hb : Below w.heap.size w w') : PlantAt w' F a p :=
  h.mods (Mods.of_below (F := fun _ => False) hb) fun _g hg _ => ⟨hg, fun x => x⟩
theorem PlantAt.lt (h : PlantAt w F a p) : a < w.heap.size := by obtain ⟨D, T, V, W, h⟩ := h; exact h.blk.lt
end
end Go.Proofs.YtloffgoenaomkaaDoor.Pl
