/- The reference's plant in memory: the same plain plant behind other cells. -/
import Derived.Test.YtomncfiklkhfjaaPlLaw
namespace Go.Proofs.Ytomncfiklkhfjaa.Ref
open Go Go.RowKit Mem Pl
/-- A sector's bytes behind a slice. -/
def SecOk (w : World) (b : List UInt8) (v : Value) : Prop :=
  ∃ g c cs, v = .slice (some ⟨g, 0, none⟩) 64 c ∧ w.heap[g]? = some (.cells cs 5 (0, 0)) ∧ cs.toList.take 64 = b.map B8 ∧ b.length = 64
/-- A device's sectors. -/
def RowAt (w : World) (F : Nat → Prop) (V : Value) (l : List (List UInt8)) : Prop :=
  ∃ vs, Vec w F 28 1 V l.length vs ∧ ∀ (k : Nat) (b : List UInt8), l[k]? = some b → ∃ v, vs[k]? = some v ∧ SecOk w b v
/-- All devices' sectors, each in a block of its own. -/
def HasAt (w : World) (F : Nat → Prop) (V : Value) (hs : List (List (List UInt8))) : Prop :=
  ∃ rows, Vec w F 79 1 V hs.length rows ∧ (∀ (i : Nat) (l : List (List UInt8)), hs[i]? = some l → ∃ v, rows[i]? = some v ∧ RowAt w F v l) ∧
    (∀ (i j g : Nat), (rows[i]?).bind Value.ownBlock = some g → (rows[j]?).bind Value.ownBlock = some g → i = j) ∧ ∀ (i g : Nat), (rows[i]?).bind Value.ownBlock = some g → F g ∧ g < w.heap.size
def RWaitsAt (w : World) (F : Nat → Prop) (V : Value) (ws : List Wr) : Prop :=
  ∃ rows : List (List Value), Vec w F 112 3 V ws.length rows.flatten ∧ rows.length = ws.length ∧ ∀ (i : Nat) x, ws[i]? = some x → ∃ v, rows[i]? = some [natV x.dev, natV x.place, v] ∧ SecOk w x.b v
def rfCells (D T V W : Value) (left : Int) (p : PM) : List Value := [D, T, V, W, .bool p.off, .bool p.fuse.isSome, .int .i64 left, .int .i64 (p.steps : Int), .int .i64 (p.now : Int)]
structure RefB (w : World) (F : Nat → Prop) (r : Nat) (p : PM) (left : Int) (D T V W : Value) : Prop where
  blk : Blk w r 78 (rfCells D T V W left p).toArray
  own : F r
  hleft : ∀ n : Nat, p.fuse = some n → left = (n : Int)
  lrange : -9223372036854775808 ≤ left ∧ left < 9223372036854775808
  disks : Vec w F 3 1 D p.disks.length (p.disks.map natV)
  tapes : Vec w F 3 1 T p.tapes.length (p.tapes.map natV)
  has : HasAt w F V (p.devs.map (·.has))
  waits : RWaitsAt w F W p.waits
def RefAt (w : World) (F : Nat → Prop) (r : Nat) (p : PM) : Prop := ∃ left D T V W, RefB w F r p left D T V W
/-- Rows of bytes that were there stay. -/
def BytesKept (w w' : World) : Prop := ∀ (g : Nat) (cs : Array Value), w.heap[g]? = some (Obj.cells cs 5 (0, 0)) → w'.heap[g]? = some (Obj.cells cs 5 (0, 0))
/-- What the reference's calls do to memory: rows of bytes that were there stay. -/
structure RMods (F : Nat → Prop) (w w' : World) : Prop where
  mods : Mods w.heap.size F w w'
  bytes : BytesKept w w'
section
variable {w w' : World} {F G : Nat → Prop} {V v : Value} {b : List UInt8} {l : List (List UInt8)} {hs : List (List (List UInt8))} {ws : List Wr} {r : Nat} {p : PM}
theorem lt_heap {g : Nat} {o : Obj} (h : w.heap[g]? = some o) : g < w.heap.size := (Array.getElem?_eq_some_iff.1 h).1
theorem RMods.of_below (hb : Below w.heap.size w w') : RMods F w w' := ⟨Mods.of_below hb, fun g cs h => (hb.block g (lt_heap h)).trans h⟩
theorem SecOk.keep (h : SecOk w b v) (hk : BytesKept w w') : SecOk w' b v := by
  obtain ⟨g, c, cs, h1, h2, h3, h4⟩ := h
  exact ⟨g, c, cs, h1, hk g cs h2, h3, h4⟩
theorem SecOk.below (h : SecOk w b v) (hb : Below w.heap.size w w') : SecOk w' b v := h.keep (RMods.of_below (F := fun _ => False) hb).bytes
/-- Any blocks may turn but those of F and of bytes. -/
theorem RowAt.mods {B : Nat} (h : RowAt w F V l) (hm : Mods B G w w') (hn : ∀ g, g < w.heap.size → F g → g < B ∧ ¬ G g) (hk : BytesKept w w') : RowAt w' F V l := by
  obtain ⟨vs, h1, h2⟩ := h
  exact ⟨vs, h1.mods hm hn, fun k b hb => (h2 k b hb).imp fun v x => ⟨x.1, x.2.keep hk⟩⟩
theorem RowAt.mono (h : RowAt w F V l) (hF : ∀ g, g < w.heap.size → F g → G g) : RowAt w G V l := by
  obtain ⟨vs, h1, h2⟩ := h
  exact ⟨vs, h1.mono hF, h2⟩
theorem HasAt.mods {B : Nat} (h : HasAt w F V hs) (hm : Mods B G w w') (hn : ∀ g, g < w.heap.size → F g → g < B ∧ ¬ G g) (hk : BytesKept w w') : HasAt w' F V hs := by
  obtain ⟨rows, h1, h2, h3, h4⟩ := h
  exact ⟨rows, h1.mods hm hn, fun i l hl => (h2 i l hl).imp fun v x => ⟨x.1, x.2.mods hm hn hk⟩, h3, fun i g hg => ⟨(h4 i g hg).1, Nat.lt_of_lt_of_le (h4 i g hg).2 hm.size⟩⟩
theorem HasAt.mono (h : HasAt w F V hs) (hF : ∀ g, g < w.heap.size → F g → G g) : HasAt w G V hs := by
  obtain ⟨rows, h1, h2, h3, h4⟩ := h
  exact ⟨rows, h1.mono hF, fun i l hl => (h2 i l hl).imp fun v x => ⟨x.1, x.2.mono hF⟩, h3, fun i g hg => ⟨hF g (h4 i g hg).2 (h4 i g hg).1, (h4 i g hg).2⟩⟩
/-- Blocks of cells of a type stay where a row of another type turned. -/
theorem keep_ty {u : TypeId} {row : Option Nat} (hg : w.grownBy w' row) (hr : row = none ∨ ∃ g cs, row = some g ∧ w.heap[g]? = some (Obj.cells cs u (0, 0))) {t : TypeId} (htu : t ≠ u) : ∀ (g : Nat) (cs : Array Value), w.heap[g]? = some (Obj.cells cs t (0, 0)) → w'.heap[g]? = some (Obj.cells cs t (0, 0)) := fun g cs h => by
  refine (hg.block g (lt_heap h) ?_).trans h
  rcases hr with rfl | ⟨g', cs', rfl, h'⟩
  · simp
  · intro e
    injection e with e
    subst e
    rw [h] at h'
    injection h' with h'
    injection h' with _ h'
    exact htu h'
/-- Only blocks of other types turned. -/
theorem RowAt.heap (h : RowAt w F V l) (h1 : ∀ (g : Nat) (cs : Array Value), w.heap[g]? = some (Obj.cells cs 28 (0, 0)) → w'.heap[g]? = some (Obj.cells cs 28 (0, 0))) (hk : BytesKept w w') : RowAt w' F V l := by
  obtain ⟨vs, h2, h3⟩ := h
  exact ⟨vs, h2.heap h1, fun k b hb => (h3 k b hb).imp fun v x => ⟨x.1, x.2.keep hk⟩⟩
theorem HasAt.heap (h : HasAt w F V hs) (h0 : ∀ (g : Nat) (cs : Array Value), w.heap[g]? = some (Obj.cells cs 79 (0, 0)) → w'.heap[g]? = some (Obj.cells cs 79 (0, 0))) (h1 : ∀ (g : Nat) (cs : Array Value), w.heap[g]? = some (Obj.cells cs 28 (0, 0)) → w'.heap[g]? = some (Obj.cells cs 28 (0, 0))) (hk : BytesKept w w') (hsz : w.heap.size ≤ w'.heap.size) : HasAt w' F V hs := by
  obtain ⟨rows, h2, h3, h4, h5⟩ := h
  exact ⟨rows, h2.heap h0, fun i l hl => (h3 i l hl).imp fun v x => ⟨x.1, x.2.heap h1 hk⟩, h4, fun i g hg => ⟨(h5 i g hg).1, Nat.lt_of_lt_of_le (h5 i g hg).2 hsz⟩⟩
theorem HasAt.nil_ (w : World) (F : Nat → Prop) : HasAt w F (.slice none 0 0) [] := ⟨[], Vec.nil_ _ _ _ _ _, fun i l h => by simp at h, fun i j g h => by simp at h, fun i g h => by simp at h⟩
/-- A device more. -/
theorem HasAt.push {F' : Nat → Prop} {B : Nat} {V' : Value} {rows : List Value} {row : Option Nat} (hlen : rows.length = hs.length) (h2 : ∀ (i : Nat) (l : List (List UInt8)), hs[i]? = some l → ∃ v, rows[i]? = some v ∧ RowAt w F v l)
    (h3 : ∀ (i j g : Nat), (rows[i]?).bind Value.ownBlock = some g → (rows[j]?).bind Value.ownBlock = some g → i = j) (h4 : ∀ (i g : Nat), (rows[i]?).bind Value.ownBlock = some g → F g ∧ g < B) (hB : B ≤ w.heap.size)
    (hv : RowAt w F v l) (hb : ∀ g, v.ownBlock = some g → B ≤ g ∧ F g ∧ g < w.heap.size) (hg : w.grownBy w' row) (hr : row = none ∨ ∃ g cs, row = some g ∧ w.heap[g]? = some (Obj.cells cs 79 (0, 0))) (hF : ∀ g, F g → F' g)
    (hV : Vec w' F' 79 1 V' (hs.length + 1) (rows ++ [v])) : HasAt w' F' V' (hs ++ [l]) := by
  have hk1 := keep_ty hg hr (t := 28) (by decide)
  have hk2 : BytesKept w w' := keep_ty hg hr (t := 5) (by decide)
  have hget : ∀ i, (rows ++ [v])[i]? = if i < hs.length then rows[i]? else if i = hs.length then some v else none := fun i => by
    rcases Nat.lt_trichotomy i hs.length with h | h | h
    · rw [List.getElem?_append_left (by omega), if_pos h]
    · subst h
      rw [List.getElem?_append_right (by omega), if_neg (by omega), if_pos rfl, hlen]
      simp
    · rw [if_neg (by omega), if_neg (by omega)]
      exact List.getElem?_eq_none (by simp [hlen]; omega)
  refine ⟨rows ++ [v], by simpa using hV, fun i l' hl => ?_, fun i j g hi hj => ?_, fun i g hi => ?_⟩
  · rw [hget]
    rcases Nat.lt_or_ge i hs.length with h | h
    · rw [if_pos h]
      rw [List.getElem?_append_left h] at hl
      obtain ⟨v', h5, h6⟩ := h2 i l' hl
      exact ⟨v', h5, (h6.heap hk1 hk2).mono fun g _ => hF g⟩
    · have hi : i = hs.length := by
        have := (List.getElem?_eq_some_iff.1 hl).1
        simp at this
        omega
      subst hi
      rw [if_neg (by omega), if_pos rfl]
      simp at hl
      subst hl
      exact ⟨v, rfl, (hv.heap hk1 hk2).mono fun g _ => hF g⟩
  · rw [hget] at hi hj
    split at hi <;> split at hj
    · exact h3 i j g hi hj
    · split at hj
      · have e1 := (h4 i g hi).2
        have e2 := (hb g hj).1
        omega
      · cases hj
    · split at hi
      · have e1 := (h4 j g hj).2
        have e2 := (hb g hi).1
        omega
      · cases hi
    · split at hi
      · split at hj
        · omega
        · cases hj
      · cases hi
  · rw [hget] at hi
    split at hi
    · exact ⟨hF g (h4 i g hi).1, Nat.lt_of_lt_of_le (Nat.lt_of_lt_of_le (h4 i g hi).2 hB) hg.size⟩
    · split at hi
      · exact ⟨hF g (hb g hi).2.1, Nat.lt_of_lt_of_le (hb g hi).2.2 hg.size⟩
      · cases hi
theorem RWaitsAt.heap (h : RWaitsAt w F V ws) (h1 : ∀ (g : Nat) (cs : Array Value), w.heap[g]? = some (Obj.cells cs 112 (0, 0)) → w'.heap[g]? = some (Obj.cells cs 112 (0, 0))) (hk : BytesKept w w') : RWaitsAt w' F V ws := by
  obtain ⟨rows, h2, h3, h4⟩ := h
  exact ⟨rows, h2.heap h1, h3, fun i x hx => (h4 i x hx).imp fun v y => ⟨y.1, y.2.keep hk⟩⟩
theorem rowTy : ElTy Try.prog 79 28 1 24 (.slice none 0 0) := ⟨Try.underlying79, by kernel_rfl, by kernel_rfl, by decide⟩
theorem rowsTy : ElTy Try.prog 75 79 1 24 (.slice none 0 0) := ⟨Try.underlying75, by kernel_rfl, by kernel_rfl, by decide⟩
theorem waitTy : ElTy Try.prog 76 112 3 40 (.agg #[.int .i64 0, .int .i64 0, .slice none 0 0]) := ⟨Try.underlying76, by kernel_rfl, by kernel_rfl, by decide⟩
theorem RWaitsAt.mods {B : Nat} (h : RWaitsAt w F V ws) (hm : Mods B G w w') (hn : ∀ g, g < w.heap.size → F g → g < B ∧ ¬ G g) (hk : BytesKept w w') : RWaitsAt w' F V ws := by
  obtain ⟨rows, h1, h2, h3⟩ := h
  exact ⟨rows, h1.mods hm hn, h2, fun i x hx => (h3 i x hx).imp fun v y => ⟨y.1, y.2.keep hk⟩⟩
theorem RWaitsAt.mono (h : RWaitsAt w F V ws) (hF : ∀ g, g < w.heap.size → F g → G g) : RWaitsAt w G V ws := by
  obtain ⟨rows, h1, h2⟩ := h
  exact ⟨rows, h1.mono hF, h2⟩
theorem RefAt.mods {B : Nat} (h : RefAt w F r p) (hm : Mods B G w w') (hn : ∀ g, g < w.heap.size → F g → g < B ∧ ¬ G g) (hk : BytesKept w w') : RefAt w' F r p := by
  obtain ⟨left, D, T, V, W, h⟩ := h
  exact ⟨left, D, T, V, W, h.blk.mods hm (hn r h.blk.lt h.own).1 (hn r h.blk.lt h.own).2, h.own, h.hleft, h.lrange, h.disks.mods hm hn, h.tapes.mods hm hn, h.has.mods hm hn hk, h.waits.mods hm hn hk⟩
theorem RefAt.mono (h : RefAt w F r p) (hF : ∀ g, g < w.heap.size → F g → G g) : RefAt w G r p := by
  obtain ⟨left, D, T, V, W, h⟩ := h
  exact ⟨left, D, T, V, W, h.blk, hF r h.blk.lt h.own, h.hleft, h.lrange, h.disks.mono hF, h.tapes.mono hF, h.has.mono hF, h.waits.mono hF⟩
theorem RefAt.below (h : RefAt w F r p) (hb : Below w.heap.size w w') : RefAt w' F r p :=
  h.mods (Mods.of_below (F := fun _ => False) hb) (fun g hg _ => ⟨hg, fun x => x⟩) (RMods.of_below (F := F) hb).bytes
theorem RefAt.lt (h : RefAt w F r p) : r < w.heap.size := by obtain ⟨left, D, T, V, W, h⟩ := h; exact h.blk.lt
end
end Go.Proofs.Ytomncfiklkhfjaa.Ref
