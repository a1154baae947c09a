/- The reference's plant in memory: the same plain plant behind other cells. -/
import Derived.Test.YtomncfiklkhfjaaFold8
import Derived.Test.YtomncfiklkhfjaaFold2
namespace Go.Proofs.Ytomncfiklkhfjaa.Ref
open Go Go.RowKit Mem Pl
variable {S : Nat → Prop}
/-- A sector's bytes behind a slice. -/
def SecOk (S : Nat → Prop) (w : World) (b : List UInt8) (v : Value) : Prop :=
  ∃ g c cs, v = .slice (some ⟨g, 0, none⟩) 64 c ∧ w.heap[g]? = some (.cells cs 5 (0, 0)) ∧ cs.toList.take 64 = b.map B8 ∧ b.length = 64 ∧ S g
/-- A device's sectors. -/
def RowAt (S : Nat → Prop) (w : World) (F : Nat → Prop) (V : Value) (l : List (List UInt8)) : Prop :=
  ∃ vs, Vec w F 28 1 V l.length vs ∧ ∀ (k : Nat) (b : List UInt8), l[k]? = some b → ∃ v, vs[k]? = some v ∧ SecOk S w b v
/-- All devices' sectors, each in a block of its own. -/
def HasAt (S : Nat → Prop) (w : World) (F : Nat → Prop) (V : Value) (hs : List (List (List UInt8))) : Prop :=
  ∃ rows, Vec w F 79 1 V hs.length rows ∧ (∀ (i : Nat) (l : List (List UInt8)), hs[i]? = some l → ∃ v, rows[i]? = some v ∧ RowAt S w F v l) ∧
    (∀ (i j g : Nat), (rows[i]?).bind Value.ownBlock = some g → (rows[j]?).bind Value.ownBlock = some g → i = j) ∧ ∀ (i g : Nat), (rows[i]?).bind Value.ownBlock = some g → F g ∧ g < w.heap.size
def RWaitsAt (S : Nat → Prop) (w : World) (F : Nat → Prop) (V : Value) (ws : List Wr) : Prop :=
  ∃ rows : List (List Value), Vec w F 112 3 V ws.length rows.flatten ∧ rows.length = ws.length ∧ ∀ (i : Nat) x, ws[i]? = some x → ∃ v, rows[i]? = some [natV x.dev, natV x.place, v] ∧ SecOk S w x.b v
def rfCells (D T V W : Value) (left : Int) (p : PM) : List Value := [D, T, V, W, .bool p.off, .bool p.fuse.isSome, .int .i64 left, .int .i64 (p.steps : Int), .int .i64 (p.now : Int)]
structure RefB (S : Nat → Prop) (w : World) (F : Nat → Prop) (r : Nat) (p : PM) (left : Int) (D T V W : Value) : Prop where
  blk : Blk w r 78 (rfCells D T V W left p).toArray
  own : F r
  hleft : ∀ n : Nat, p.fuse = some n → left = (n : Int)
  lrange : -9223372036854775808 ≤ left ∧ left < 9223372036854775808
  disks : Vec w S 3 1 D p.disks.length (p.disks.map natV)
  tapes : Vec w S 3 1 T p.tapes.length (p.tapes.map natV)
  has : HasAt S w F V (p.devs.map (·.has))
  waits : RWaitsAt S w F W p.waits
def RefAt (S : Nat → Prop) (w : World) (F : Nat → Prop) (r : Nat) (p : PM) : Prop := ∃ left D T V W, RefB S w F r p left D T V W
/-- Rows of bytes that were there stay. -/
structure BytesKept (w w' : World) : Prop where
  b : ∀ (g : Nat) (cs : Array Value), w.heap[g]? = some (Obj.cells cs 5 (0, 0)) → w'.heap[g]? = some (Obj.cells cs 5 (0, 0))
  i : ∀ (g : Nat) (cs : Array Value), w.heap[g]? = some (Obj.cells cs 3 (0, 0)) → w'.heap[g]? = some (Obj.cells cs 3 (0, 0))
theorem BytesKept.trans {w w1 w' : World} (h : BytesKept w w1) (k : BytesKept w1 w') : BytesKept w w' := ⟨fun g cs hh => k.b g cs (h.b g cs hh), fun g cs hh => k.i g cs (h.i g cs hh)⟩
theorem BytesKept.refl (w : World) : BytesKept w w := ⟨fun _ _ hh => hh, fun _ _ hh => hh⟩
theorem BytesKept.of {w w' : World} (h : ∀ t : TypeId, t = 5 ∨ t = 3 → ∀ (g : Nat) (cs : Array Value), w.heap[g]? = some (Obj.cells cs t (0, 0)) → w'.heap[g]? = some (Obj.cells cs t (0, 0))) : BytesKept w w' := ⟨h _ (.inl rfl), h _ (.inr rfl)⟩
/-- What the reference's calls do to memory: rows of bytes that were there stay. -/
structure RMods (F : Nat → Prop) (w w' : World) : Prop where
  mods : Mods w.heap.size F w w'
  bytes : BytesKept w w'
section
variable {w w' : World} {F G : Nat → Prop} {V v : Value} {b : List UInt8} {l : List (List UInt8)} {hs : List (List (List UInt8))} {ws : List Wr} {r : Nat} {p : PM}
theorem lt_heap {g : Nat} {o : Obj} (h : w.heap[g]? = some o) : g < w.heap.size := (Array.getElem?_eq_some_iff.1 h).1
theorem RMods.of_below (hb : Below w.heap.size w w') : RMods F w w' := ⟨Mods.of_below hb, BytesKept.of fun _ _ g cs h => (hb.block g (lt_heap h)).trans h⟩
theorem SecOk.keep (h : SecOk S w b v) (hk : BytesKept w w') : SecOk S w' b v := by
  obtain ⟨g, c, cs, h1, h2, h3, h4⟩ := h
  exact ⟨g, c, cs, h1, hk.b g cs h2, h3, h4⟩
theorem SecOk.below (h : SecOk S w b v) (hb : Below w.heap.size w w') : SecOk S w' b v := h.keep (RMods.of_below (F := fun _ => False) hb).bytes
/-- Any blocks may turn but those of F and of bytes. -/
theorem RowAt.mods {B : Nat} (h : RowAt S w F V l) (hm : Mods B G w w') (hn : ∀ g, g < w.heap.size → F g → g < B ∧ ¬ G g) (hk : BytesKept w w') : RowAt S w' F V l := by
  obtain ⟨vs, h1, h2⟩ := h
  exact ⟨vs, h1.mods hm hn, fun k b hb => (h2 k b hb).imp fun v x => ⟨x.1, x.2.keep hk⟩⟩
theorem RowAt.mono (h : RowAt S w F V l) (hF : ∀ g, g < w.heap.size → F g → G g) : RowAt S w G V l := by
  obtain ⟨vs, h1, h2⟩ := h
  exact ⟨vs, h1.mono hF, h2⟩
theorem HasAt.mods {B : Nat} (h : HasAt S w F V hs) (hm : Mods B G w w') (hn : ∀ g, g < w.heap.size → F g → g < B ∧ ¬ G g) (hk : BytesKept w w') : HasAt S w' F V hs := by
  obtain ⟨rows, h1, h2, h3, h4⟩ := h
  exact ⟨rows, h1.mods hm hn, fun i l hl => (h2 i l hl).imp fun v x => ⟨x.1, x.2.mods hm hn hk⟩, h3, fun i g hg => ⟨(h4 i g hg).1, Nat.lt_of_lt_of_le (h4 i g hg).2 hm.size⟩⟩
theorem HasAt.mono (h : HasAt S w F V hs) (hF : ∀ g, g < w.heap.size → F g → G g) : HasAt S w G V hs := by
  obtain ⟨rows, h1, h2, h3, h4⟩ := h
  exact ⟨rows, h1.mono hF, fun i l hl => (h2 i l hl).imp fun v x => ⟨x.1, x.2.mono hF⟩, h3, fun i g hg => ⟨hF g (h4 i g hg).2 (h4 i g hg).1, (h4 i g hg).2⟩⟩
/-- Blocks of cells of a type stay where a row of another type turned. -/
theorem keep_ty {u : TypeId} {row : Option Nat} (hg : w.grownBy w' row) (hr : row = none ∨ ∃ g cs, row = some g ∧ w.heap[g]? = some (Obj.cells cs u (0, 0))) {t : TypeId} (htu : t ≠ u) : ∀ (g : Nat) (cs : Array Value), w.heap[g]? = some (Obj.cells cs t (0, 0)) → w'.heap[g]? = some (Obj.cells cs t (0, 0)) := fun g cs h => by
  refine (hg.block g (lt_heap h) ?_).trans h
  rcases hr with rfl | ⟨g', cs', rfl, h'⟩
  · simp
  · intro e
    injection e with e
    subst e
    rw [h] at h'
    injection h' with h'
    injection h' with _ h'
    exact htu h'
/-- Only blocks of other types turned. -/
theorem RowAt.heap (h : RowAt S w F V l) (h1 : ∀ (g : Nat) (cs : Array Value), w.heap[g]? = some (Obj.cells cs 28 (0, 0)) → w'.heap[g]? = some (Obj.cells cs 28 (0, 0))) (hk : BytesKept w w') : RowAt S w' F V l := by
  obtain ⟨vs, h2, h3⟩ := h
  exact ⟨vs, h2.heap h1, fun k b hb => (h3 k b hb).imp fun v x => ⟨x.1, x.2.keep hk⟩⟩
theorem HasAt.heap (h : HasAt S w F V hs) (h0 : ∀ (g : Nat) (cs : Array Value), w.heap[g]? = some (Obj.cells cs 79 (0, 0)) → w'.heap[g]? = some (Obj.cells cs 79 (0, 0))) (h1 : ∀ (g : Nat) (cs : Array Value), w.heap[g]? = some (Obj.cells cs 28 (0, 0)) → w'.heap[g]? = some (Obj.cells cs 28 (0, 0))) (hk : BytesKept w w') (hsz : w.heap.size ≤ w'.heap.size) : HasAt S w' F V hs := by
  obtain ⟨rows, h2, h3, h4, h5⟩ := h
  exact ⟨rows, h2.heap h0, fun i l hl => (h3 i l hl).imp fun v x => ⟨x.1, x.2.heap h1 hk⟩, h4, fun i g hg => ⟨(h5 i g hg).1, Nat.lt_of_lt_of_le (h5 i g hg).2 hsz⟩⟩
theorem HasAt.nil_ (w : World) (F : Nat → Prop) : HasAt S w F (.slice none 0 0) [] := ⟨[], Vec.nil_ _ _ _ _ _, fun i l h => by simp at h, fun i j g h => by simp at h, fun i g h => by simp at h⟩
/-- A device more. -/
theorem HasAt.push {F' : Nat → Prop} {B : Nat} {V' : Value} {rows : List Value} {row : Option Nat} (hlen : rows.length = hs.length) (h2 : ∀ (i : Nat) (l : List (List UInt8)), hs[i]? = some l → ∃ v, rows[i]? = some v ∧ RowAt S w F v l)
    (h3 : ∀ (i j g : Nat), (rows[i]?).bind Value.ownBlock = some g → (rows[j]?).bind Value.ownBlock = some g → i = j) (h4 : ∀ (i g : Nat), (rows[i]?).bind Value.ownBlock = some g → F g ∧ g < B) (hB : B ≤ w.heap.size)
    (hv : RowAt S w F v l) (hb : ∀ g, v.ownBlock = some g → B ≤ g ∧ F g ∧ g < w.heap.size) (hg : w.grownBy w' row) (hr : row = none ∨ ∃ g cs, row = some g ∧ w.heap[g]? = some (Obj.cells cs 79 (0, 0))) (hF : ∀ g, F g → F' g)
    (hV : Vec w' F' 79 1 V' (hs.length + 1) (rows ++ [v])) : HasAt S w' F' V' (hs ++ [l]) := by
  have hk1 := keep_ty hg hr (t := 28) (by decide)
  have hk2 : BytesKept w w' := ⟨keep_ty hg hr (by decide), keep_ty hg hr (by decide)⟩
  have hget : ∀ i, (rows ++ [v])[i]? = if i < hs.length then rows[i]? else if i = hs.length then some v else none := fun i => by
    rcases Nat.lt_trichotomy i hs.length with h | h | h
    · rw [List.getElem?_append_left (by omega), if_pos h]
    · subst h
      rw [List.getElem?_append_right (by omega), if_neg (by omega), if_pos rfl, hlen]
      simp
    · rw [if_neg (by omega), if_neg (by omega)]
      exact List.getElem?_eq_none (by simp [hlen]; omega)
  refine ⟨rows ++ [v], by simpa using hV, fun i l' hl => ?_, fun i j g hi hj => ?_, fun i g hi => ?_⟩
  · rw [hget]
    rcases Nat.lt_or_ge i hs.length with h | h
    · rw [if_pos h]
      rw [List.getElem?_append_left h] at hl
      obtain ⟨v', h5, h6⟩ := h2 i l' hl
      exact ⟨v', h5, (h6.heap hk1 hk2).mono fun g _ => hF g⟩
    · have hi : i = hs.length := by
        have := (List.getElem?_eq_some_iff.1 hl).1
        simp at this
        omega
      subst hi
      rw [if_neg (by omega), if_pos rfl]
      simp at hl
      subst hl
      exact ⟨v, rfl, (hv.heap hk1 hk2).mono fun g _ => hF g⟩
  · rw [hget] at hi hj
    split at hi <;> split at hj
    · exact h3 i j g hi hj
    · split at hj
      · have e1 := (h4 i g hi).2
        have e2 := (hb g hj).1
        omega
      · cases hj
    · split at hi
      · have e1 := (h4 j g hj).2
        have e2 := (hb g hi).1
        omega
      · cases hi
    · split at hi
      · split at hj
        · omega
        · cases hj
      · cases hi
  · rw [hget] at hi
    split at hi
    · exact ⟨hF g (h4 i g hi).1, Nat.lt_of_lt_of_le (Nat.lt_of_lt_of_le (h4 i g hi).2 hB) hg.size⟩
    · split at hi
      · exact ⟨hF g (hb g hi).2.1, Nat.lt_of_lt_of_le (hb g hi).2.2 hg.size⟩
      · cases hi
theorem RWaitsAt.heap (h : RWaitsAt S w F V ws) (h1 : ∀ (g : Nat) (cs : Array Value), w.heap[g]? = some (Obj.cells cs 112 (0, 0)) → w'.heap[g]? = some (Obj.cells cs 112 (0, 0))) (hk : BytesKept w w') : RWaitsAt S w' F V ws := by
  obtain ⟨rows, h2, h3, h4⟩ := h
  exact ⟨rows, h2.heap h1, h3, fun i x hx => (h4 i x hx).imp fun v y => ⟨y.1, y.2.keep hk⟩⟩
theorem rowTy : ElTy Try.prog 79 28 1 24 (.slice none 0 0) := ⟨Try.underlying79, by kernel_rfl, by kernel_rfl, by decide⟩
theorem rowsTy : ElTy Try.prog 75 79 1 24 (.slice none 0 0) := ⟨Try.underlying75, by kernel_rfl, by kernel_rfl, by decide⟩
theorem waitTy : ElTy Try.prog 76 112 3 40 (.agg #[.int .i64 0, .int .i64 0, .slice none 0 0]) := ⟨Try.underlying76, by kernel_rfl, by kernel_rfl, by decide⟩
theorem RWaitsAt.mods {B : Nat} (h : RWaitsAt S w F V ws) (hm : Mods B G w w') (hn : ∀ g, g < w.heap.size → F g → g < B ∧ ¬ G g) (hk : BytesKept w w') : RWaitsAt S w' F V ws := by
  obtain ⟨rows, h1, h2, h3⟩ := h
  exact ⟨rows, h1.mods hm hn, h2, fun i x hx => (h3 i x hx).imp fun v y => ⟨y.1, y.2.keep hk⟩⟩
theorem RWaitsAt.mono (h : RWaitsAt S w F V ws) (hF : ∀ g, g < w.heap.size → F g → G g) : RWaitsAt S w G V ws := by
  obtain ⟨rows, h1, h2⟩ := h
  exact ⟨rows, h1.mono hF, h2⟩
theorem RefAt.mods {B : Nat} (h : RefAt S w F r p) (hm : Mods B G w w') (hn : ∀ g, g < w.heap.size → F g → g < B ∧ ¬ G g) (hk : BytesKept w w') : RefAt S w' F r p := by
  obtain ⟨left, D, T, V, W, h⟩ := h
  exact ⟨left, D, T, V, W, h.blk.mods hm (hn r h.blk.lt h.own).1 (hn r h.blk.lt h.own).2, h.own, h.hleft, h.lrange, h.disks.heap hk.i, h.tapes.heap hk.i, h.has.mods hm hn hk, h.waits.mods hm hn hk⟩
theorem RefAt.mono (h : RefAt S w F r p) (hF : ∀ g, g < w.heap.size → F g → G g) : RefAt S w G r p := by
  obtain ⟨left, D, T, V, W, h⟩ := h
  exact ⟨left, D, T, V, W, h.blk, hF r h.blk.lt h.own, h.hleft, h.lrange, h.disks, h.tapes, h.has.mono hF, h.waits.mono hF⟩
theorem RefAt.below (h : RefAt S w F r p) (hb : Below w.heap.size w w') : RefAt S w' F r p :=
  h.mods (Mods.of_below (F := fun _ => False) hb) (fun g hg _ => ⟨hg, fun x => x⟩) (RMods.of_below (F := F) hb).bytes
theorem RefAt.lt (h : RefAt S w F r p) : r < w.heap.size := by obtain ⟨left, D, T, V, W, h⟩ := h; exact h.blk.lt
end
end Go.Proofs.Ytomncfiklkhfjaa.Ref
/- The states of the reference's 'New'. -/
namespace Go.Proofs.Ytomncfiklkhfjaa.Ref
open Go Go.RowKit Mem Pl
variable {S : Nat → Prop}
theorem own_row_ty {w : World} {base : Nat} {e : TypeId} {size : Nat} {A : Option Addr} {n c : Nat} {xs : List Value} (h : OwnG w base e size A n c xs) :
    (Value.slice A n c).ownBlock = none ∨ ∃ g cs, (Value.slice A n c).ownBlock = some g ∧ w.heap[g]? = some (Obj.cells cs e (0, 0)) := by
  obtain ⟨_, h2⟩ := h
  rcases h2 with ⟨h0, _⟩ | ⟨g', cap', cur, hv, hg, hh, _⟩
  · injection h0 with h0
    subst h0
    exact .inl rfl
  · injection hv with hv
    subst hv
    exact .inr ⟨g', cur, rfl, hh⟩
theorem iat_of_vec {w : World} {F : Nat → Prop} {A : Option Addr} {n c : Nat} {zs : List Int} (h : Vec w F 3 1 (.slice A n c) n (zs.map intV)) : IAt w A zs := by
  by_cases h0 : zs = []
  · exact .inl h0
  · have hp : 0 < zs.length := List.length_pos_iff.2 h0
    obtain ⟨g, hA, _⟩ := h.cell 0 (.int .i64 zs[0]) (by rw [List.getElem?_map, List.getElem?_eq_getElem hp]; rfl)
    subst hA
    refine .inr ⟨_, rfl, fun k z hz => ?_⟩
    have := h.at_ (k := k) (u := .int .i64 z) (by rw [List.getElem?_map, hz]; rfl)
    have e : (Addr.add ⟨g, 0, none⟩ k) = ⟨g, k, none⟩ := by
      unfold Addr.add
      split
      · rename_i h; subst h; rfl
      · simp
    rw [e]
    exact this
/-- What the devices have. -/
def TG (zs1 zs2 : List Int) : List (List (List UInt8)) := (newDevs (zs1.map Int.toNat) (zs2.map Int.toNat)).map (·.has)
theorem TG_len (zs1 zs2 : List Int) : (TG zs1 zs2).length = zs1.length + zs2.length := by simp [TG, newDevs_len]
theorem TG_get {zs1 zs2 : List Int} {k : Nat} {z : Int} (h : (zs1 ++ zs2)[k]? = some z) : (TG zs1 zs2)[k]? = some (List.replicate (if k < zs1.length then z.toNat else 0) zeros) := by
  unfold TG
  rw [List.getElem?_map, newDevs_get h]
  unfold devOf
  by_cases hk : k < zs1.length <;> simp [hk]
def L1 (wc : World) (zs : List Int) (n : Nat) (iv : Value) (wr : World) : Prop := ∃ i k : Nat, i ≤ n ∧ iv = .int .i64 (i : Int) ∧ (∀ z ∈ zs.take i, okN z) ∧ wr = wc.drewN k
def L2 (S : Nat → Prop) (w : World) (r : Nat) (D T : Value) (sh : Array Value) (zs1 zs2 : List Int) (n : Nat) (iv : Value) (wr : World) : Prop :=
  ∃ (i : Nat) (V : Value), i ≤ n ∧ iv = .int .i64 (i : Int) ∧ Below w.heap.size w wr ∧ Blk wr r 78 #[D, T, V, .slice none 0 0, .bool false, .bool false, .int .i64 0, .int .i64 0, .int .i64 0] ∧
    Vec wr (New w wr) 3 1 D zs1.length (zs1.map intV) ∧ Vec wr (New w wr) 3 1 T zs2.length (zs2.map intV) ∧ Blk wr w.heap.size 44 sh ∧ HasAt S wr (New w wr) V ((TG zs1 zs2).take i)
/-- A device's sectors, one by one. -/
def L3 (S : Nat → Prop) (wr : World) (m : Nat) (lv kv : Value) (w3 : World) : Prop :=
  ∃ (k : Nat) (L : Option Addr) (c : Nat) (vs : List Value), k ≤ m ∧ kv = .int .i64 (k : Int) ∧ lv = .slice L k c ∧ Below wr.heap.size wr w3 ∧ OwnG w3 wr.heap.size 28 1 L k c vs ∧ ∀ j : Nat, j < k → ∃ v, vs[j]? = some v ∧ SecOk S w3 zeros v
theorem SecOk.new (w : World) (hS : ∀ g, w.heap.size ≤ g → S g) : SecOk S (w.alloc (.cells (zeros.map B8).toArray 5)) zeros (.slice (some ⟨w.heap.size, 0, none⟩) 64 64) :=
  ⟨w.heap.size, 64, _, rfl, heap_alloc_new w _, by simp [zeros], zeros_len, hS _ (Nat.le_refl _)⟩
theorem L3.next {wr w3 w5 : World} {m k c c5 : Nat} {L A5 : Option Addr} {vs : List Value} (hS : ∀ g, wr.heap.size ≤ g → S g) (hk : k < m) (hb : Below wr.heap.size wr w3) (hs : ∀ j : Nat, j < k → ∃ v, vs[j]? = some v ∧ SecOk S w3 zeros v) (hlen : vs.length = k)
    (ho : OwnG w3 wr.heap.size 28 1 L k c vs)
    (h5 : OwnG w5 wr.heap.size 28 1 A5 (k + 1) c5 (vs ++ [.slice (some ⟨w3.heap.size, 0, none⟩) 64 64]))
    (hg : ((w3.alloc (.cells (zeros.map B8).toArray 5)).alloc (.cells #[.slice (some ⟨w3.heap.size, 0, none⟩) 64 64] 28)).grownBy w5 (Value.slice L k c).ownBlock)
    (hb5 : Below wr.heap.size ((w3.alloc (.cells (zeros.map B8).toArray 5)).alloc (.cells #[.slice (some ⟨w3.heap.size, 0, none⟩) 64 64] 28)) w5) :
    L3 S wr m (.slice A5 (k + 1) c5) (.int .i64 ((k : Int) + 1)) w5 := by
  have hb4 : Below w3.heap.size w3 ((w3.alloc (.cells (zeros.map B8).toArray 5)).alloc (.cells #[.slice (some ⟨w3.heap.size, 0, none⟩) 64 64] 28)) := ((Below.refl _ _).alloc (Nat.le_refl _) _).alloc (by simp) _
  have hk5 : BytesKept ((w3.alloc (.cells (zeros.map B8).toArray 5)).alloc (.cells #[.slice (some ⟨w3.heap.size, 0, none⟩) 64 64] 28)) w5 := BytesKept.of fun t ht => keep_ty hg (own_row_ty ((ho.alloc (.cells (zeros.map B8).toArray 5)).alloc (.cells #[.slice (some ⟨w3.heap.size, 0, none⟩) 64 64] 28))) (by rcases ht with rfl | rfl <;> decide)
  refine ⟨k + 1, A5, c5, _, hk, by simp, rfl, (hb.trans (hb4.mono hb.size)).trans hb5, h5, fun j hj => ?_⟩
  rcases Nat.lt_or_ge j k with h | h
  · obtain ⟨v, h1, h2⟩ := hs j h
    exact ⟨v, by rw [List.getElem?_append_left (by omega)]; exact h1, (h2.below hb4).keep hk5⟩
  · obtain rfl : j = k := by omega
    refine ⟨_, by rw [List.getElem?_append_right (by omega), hlen]; simp, ((SecOk.new w3 fun g h => hS g (Nat.le_trans hb.size h)).below (below_al' _)).keep hk5⟩
theorem L3.row {wr w3 : World} {m c : Nat} {L : Option Addr} {vs : List Value} {F : Nat → Prop} (hs : ∀ j : Nat, j < m → ∃ v, vs[j]? = some v ∧ SecOk S w3 zeros v) (ho : OwnG w3 wr.heap.size 28 1 L m c vs) (hF : ∀ g, wr.heap.size ≤ g → g < w3.heap.size → F g) :
    RowAt S w3 F (.slice L m c) (List.replicate m zeros) := by
  refine ⟨vs, by simpa using Vec.of_own ho hF, fun k b hb => ?_⟩
  rw [List.getElem?_replicate] at hb
  split at hb
  · rename_i h
    injection hb with hb
    subst hb
    exact hs k h
  · cases hb
theorem L2.next {w wr w3 w5 : World} {r i n : Nat} {D T V V5 lv : Value} {sh : Array Value} {zs1 zs2 : List Int} {z : Int} {rows : List Value} {row : Option Nat} {l : List (List UInt8)}
    (hz : (zs1 ++ zs2)[i]? = some z) (hin : i < n) (hbl : Below w.heap.size w wr) (hr0 : w.heap.size < r)
    (hblk : Blk wr r 78 #[D, T, V, .slice none 0 0, .bool false, .bool false, .int .i64 0, .int .i64 0, .int .i64 0])
    (hD : Vec wr (New w wr) 3 1 D zs1.length (zs1.map intV)) (hT : Vec wr (New w wr) 3 1 T zs2.length (zs2.map intV)) (hS : Blk wr w.heap.size 44 sh)
    (hlen : rows.length = i) (h2 : ∀ (j : Nat) (l : List (List UInt8)), ((TG zs1 zs2).take i)[j]? = some l → ∃ v, rows[j]? = some v ∧ RowAt S wr (New w wr) v l)
    (h3 : ∀ (i j g : Nat), (rows[i]?).bind Value.ownBlock = some g → (rows[j]?).bind Value.ownBlock = some g → i = j) (h4 : ∀ (i g : Nat), (rows[i]?).bind Value.ownBlock = some g → New w wr g ∧ g < wr.heap.size)
    (hb3 : Below wr.heap.size wr w3) (hrow : RowAt S w3 (New w w3) lv l) (hlv : ∀ g, lv.ownBlock = some g → wr.heap.size ≤ g ∧ g < w3.heap.size) (hl : (TG zs1 zs2)[i]? = some l)
    (hg : (w3.alloc (.cells #[lv] 79)).grownBy w5 row) (hr : row = none ∨ ∃ g cs, row = some g ∧ New w wr g ∧ (w3.alloc (.cells #[lv] 79)).heap[g]? = some (Obj.cells cs 79 (0, 0)))
    (hV : Vec w5 (Grow (New w wr) (w3.alloc (.cells #[lv] 79)) w5) 79 1 V5 (i + 1) (rows ++ [lv])) :
    L2 S w r D T sh zs1 zs2 n (.int .i64 ((i : Int) + 1)) (w5.setCell ⟨r, 2, none⟩ V5) := by
  have hb4 : Below wr.heap.size wr (w3.alloc (.cells #[lv] 79)) := hb3.trans ((below_al' _).mono hb3.size)
  have hsz4 : w3.heap.size ≤ (w3.alloc (.cells #[lv] 79)).heap.size := (below_al' (w := w3) _).size
  have hr' : row = none ∨ ∃ g cs, row = some g ∧ (w3.alloc (.cells #[lv] 79)).heap[g]? = some (Obj.cells cs 79 (0, 0)) := hr.imp id fun ⟨g, cs, x, _, y⟩ => ⟨g, cs, x, y⟩
  have hkt : ∀ (t : TypeId), t ≠ 79 → ∀ (g : Nat) (cs : Array Value), wr.heap[g]? = some (Obj.cells cs t (0, 0)) → w5.heap[g]? = some (Obj.cells cs t (0, 0)) := fun t ht g cs h => keep_ty hg hr' ht g cs ((hb4.block g (lt_heap h)).trans h)
  have hblk5 : Blk w5 r 78 #[D, T, V, .slice none 0 0, .bool false, .bool false, .int .i64 0, .int .i64 0, .int .i64 0] := hkt _ (by decide) r _ hblk
  have hkt6 : ∀ (t : TypeId), t ≠ 78 → ∀ (g : Nat) (cs : Array Value), w5.heap[g]? = some (Obj.cells cs t (0, 0)) → (w5.setCell ⟨r, 2, none⟩ V5).heap[g]? = some (Obj.cells cs t (0, 0)) := fun t ht g cs h =>
    Blk.far (w := w5) (g := g) (t := t) (cs := cs) h (Blk.ne_ (w := w5) (g := g) (t := t) (cs := cs) h hblk5 ht) V5
  have hsz5 := hg.size
  have hsz6 : (w5.setCell ⟨r, 2, none⟩ V5).heap.size = w5.heap.size := by simp
  have hnew : ∀ g, New w wr g → New w (w5.setCell ⟨r, 2, none⟩ V5) g := fun g h => ⟨h.1, by rw [hsz6]; have := h.2; have := hb3.size; omega⟩
  have hil : ((TG zs1 zs2).take i).length = i := by
    have h1 := (List.getElem?_eq_some_iff.1 hz).1
    rw [List.length_append] at h1
    rw [List.length_take, TG_len]
    omega
  refine ⟨i + 1, V5, hin, by simp, ?_, ?_, ?_, ?_, ?_, ?_⟩
  · refine Mods.below (F := fun _ => False) (((Mods.of_below (hbl.trans (hb4.mono hbl.size))).grown hg (Nat.le_trans hbl.size hb4.size) fun g hg => .inr ?_).setCell (.inr (Nat.le_of_lt hr0)) V5) fun _ _ h => h
    rcases hr with h | ⟨g', cs', h, hn, _⟩
    · rw [h] at hg; cases hg
    · rw [h] at hg
      injection hg with hg
      subst hg
      exact hn.1
  · exact hblk5.set_ 2 V5
  · exact ((hD.heap (hkt _ (by decide))).heap (hkt6 _ (by decide))).mono fun g _ h => hnew g h
  · exact ((hT.heap (hkt _ (by decide))).heap (hkt6 _ (by decide))).mono fun g _ h => hnew g h
  · exact hkt6 _ (by decide) _ _ (hkt _ (by decide) _ _ hS)
  · have htake : (TG zs1 zs2).take (i + 1) = (TG zs1 zs2).take i ++ [l] := by
      rw [List.take_add_one, hl]
      rfl
    rw [htake]
    have hp : HasAt S w5 (New w w5) V5 ((TG zs1 zs2).take i ++ [l]) := by
      refine HasAt.push (v := lv) (w := w3.alloc (.cells #[lv] 79)) (F := New w (w3.alloc (.cells #[lv] 79))) (B := wr.heap.size) (row := row) (by rw [hil]; exact hlen) (fun j l' hl' => ?_) h3 (fun j g hj => ?_) hb4.size ?_ (fun g hgv => ?_) hg hr' (fun g h => ⟨h.1, Nat.lt_of_lt_of_le h.2 hsz5⟩) ?_
      · obtain ⟨v, h5, h6⟩ := h2 j l' hl'
        exact ⟨v, h5, (h6.mods (Mods.of_below (F := fun _ => False) hb4) (fun g hg _ => ⟨hg, fun x => x⟩) (RMods.of_below (F := fun _ => False) hb4).bytes).mono fun g _ h => ⟨h.1, Nat.lt_of_lt_of_le h.2 hb4.size⟩⟩
      · exact ⟨⟨(h4 j g hj).1.1, Nat.lt_of_lt_of_le (h4 j g hj).2 hb4.size⟩, (h4 j g hj).2⟩
      · have hb34 : Below w3.heap.size w3 (w3.alloc (.cells #[lv] 79)) := below_al' _
        exact (hrow.mods (Mods.of_below (F := fun _ => False) hb34) (fun g hg _ => ⟨hg, fun x => x⟩) (RMods.of_below (F := fun _ => False) hb34).bytes).mono fun g _ h => ⟨h.1, Nat.lt_of_lt_of_le h.2 hsz4⟩
      · have h5 := hlv g hgv
        exact ⟨h5.1, ⟨Nat.le_trans hbl.size h5.1, Nat.lt_of_lt_of_le h5.2 hsz4⟩, Nat.lt_of_lt_of_le h5.2 hsz4⟩
      · rw [hil]
        exact hV.mono fun g hlt h => by
          rcases h with h | h
          · exact ⟨h.1, hlt⟩
          · exact ⟨Nat.le_trans (Nat.le_trans hbl.size hb4.size) h.1, hlt⟩
    exact (hp.heap (hkt6 _ (by decide)) (hkt6 _ (by decide)) ⟨hkt6 _ (by decide), hkt6 _ (by decide)⟩ (by rw [hsz6]; exact Nat.le_refl _)).mono fun g _ h => ⟨h.1, by rw [hsz6]; exact h.2⟩
/-- All the rounds are done. -/
theorem L2.done {w wr : World} {r n1 n2 : Nat} {D T V : Value} {zs1 zs2 : List Int} (hl1 : zs1.length = n1) (hl2 : zs2.length = n2) (hr0 : w.heap.size < r)
    (hN : newM zs1 zs2 = if n1 + n2 = 0 ∨ 12 < n1 + n2 ∨ (zs1 ++ zs2).any (fun n => n < 1 || 4096 < n) = true then none
    else some { disks := zs1.map Int.toNat, tapes := zs2.map Int.toNat, devs := newDevs (zs1.map Int.toNat) (zs2.map Int.toNat), waits := [], off := false, fuse := none, steps := 0, now := 0 })
    (h0 : ¬ n1 + n2 = 0) (h12 : ¬ 12 < n1 + n2) (hall : ∀ z ∈ zs1 ++ zs2, okN z) (hS : ∀ g, w.heap.size ≤ g → S g)
    (hblk : Blk wr r 78 #[D, T, V, .slice none 0 0, .bool false, .bool false, .int .i64 0, .int .i64 0, .int .i64 0])
    (hD : Vec wr (New w wr) 3 1 D zs1.length (zs1.map intV)) (hT : Vec wr (New w wr) 3 1 T zs2.length (zs2.map intV)) (hH : HasAt S wr (New w wr) V ((TG zs1 zs2).take (n1 + n2))) :
    ∃ p, newM zs1 zs2 = some p ∧ RefAt S wr (New w wr) r p := by
  have hz : ¬ (n1 + n2 = 0 ∨ 12 < n1 + n2 ∨ (zs1 ++ zs2).any (fun n => n < 1 || 4096 < n) = true) := by
    rintro (h | h | h)
    · exact h0 h
    · exact h12 h
    · obtain ⟨z, hz, h⟩ := List.any_eq_true.1 h
      have := hall z hz
      unfold okN at this
      simp at h
      omega
  rw [if_neg hz] at hN
  refine ⟨_, hN, 0, D, T, V, .slice none 0 0, ?_⟩
  rw [List.take_of_length_le (by rw [TG_len]; omega)] at hH
  rw [map_nat (fun z hz => hall z (List.mem_append_left _ hz))] at hD
  rw [map_nat (fun z hz => hall z (List.mem_append_right _ hz))] at hT
  exact ⟨hblk, ⟨Nat.le_of_lt hr0, hblk.lt⟩, fun n h => (by cases h), (by omega), (by simpa using hD.mono fun g _ h => hS g h.1), (by simpa using hT.mono fun g _ h => hS g h.1), hH, ⟨[], Vec.nil_ _ _ _ _ _, rfl, fun i x h => (by simp at h)⟩⟩
end Go.Proofs.Ytomncfiklkhfjaa.Ref
/- A drawn region walked by a tree of orders: where two operations that write may come up next, both are shown. -/
namespace Go.Proofs.Ytomncfiklkhfjaa.Ord
open Go.RowKit Mem
section
variable {P : Program} {ops : Array Oper} {Q : Exit → Act → World → Prop} {md : Region.Mode} {L : List Nat}
theorem wpOp_of_list {i : Nat} {o : Oper} {K : Act → World → Prop} {a : Act} {w : World} (hi : ops[i]? = some o) (h : wpList P ops (NX (NP Q) K) [o] a w) : wpOp P ops (NP Q) i K a w := by
  unfold wpOp
  simp only [hi]
  unfold wpList at h
  split
  · rename_i hw
    rw [if_pos hw] at h
    rcases h with h | ⟨_, h⟩
    · exact .inl (wp_next (fun a' w' x => x) h)
    · obtain ⟨_, _, h⟩ := h
      exact (h : False).elim
  · rename_i hw
    rw [if_neg hw] at h
    exact h
/-- The rest of the region, so many operations, from here. -/
def TB (P : Program) (md : Region.Mode) (ops : Array Oper) (Q : Exit → Act → World → Prop) (L : List Nat) (k : Nat) (listed : Array Bool) (a : Act) (w : World) : Prop := Closed md ops listed → wpB P md ops (NP Q) L k listed a w
theorem tb_start {id : Nat} {a : Act} {w : World} (L : List Nat) (hm : P.follows .mixedOrders = true) (h : TB P .any ops Q L ops.size (Array.replicate ops.size false) a w.drew) : (Code.region id ops true).wp P Q a w :=
  Code.wp_mono NP.imp (wp_region_any hm (wpAny_of_wpB _ _ _ _ (h Closed.start)))
theorem tb_ords {k : Nat} {listed : Array Bool} {a : Act} {w : World} (order : List Nat) (hsel : Region.noSelect ops = true) (hlen : order.length = k) (hok : okOrd P md ops L [] order listed = true) (h : wpOrd P ops (NP Q) L [] order a w) : TB P md ops Q L k listed a w := fun hc => by
  have := wpB_of_ord hsel order listed a w hc hok h
  rw [List.append_nil, hlen] at this
  exact this
/-- May operations that only look or reckon be walked ahead, in this order? -/
def okPre (P : Program) (md : Region.Mode) (ops : Array Oper) (L : List Nat) : List Nat → Array Bool → Bool
  | [], _ => true
  | i :: r, listed => (match ops[i]? with
    | none => false
    | some o => match kindOf P o with
      | .blind => (Region.ready md ops listed).contains i && Region.free md ops listed i
      | .looks => (Region.ready md ops listed).contains i && Region.free md ops listed i && (List.range ops.size).all fun j => listed.getD j true || j == i || keepsB P ops L j || waitsT md ops ops.size j i
      | _ => false) && okPre P md ops L r (listed.setIfInBounds i true)
theorem tb_pre_ (hsel : Region.noSelect ops = true) (k : Nat) : ∀ (l : List Nat) (lops : List Oper) (listed : Array Bool) (a : Act) (w : World), l.map (ops[·]?) = lops.map some → okPre P md ops L l listed = true →
    wpList P ops (NX (NP Q) fun a' w' => TB P md ops Q L k (l.foldl (fun x i => x.setIfInBounds i true) listed) a' w') lops a w → TB P md ops Q L (k + l.length) listed a w
  | [], [], _, _, _, _, _, h => h
  | [], _ :: _, _, _, _, hl, _, _ => by cases hl
  | _ :: _, [], _, _, _, hl, _, _ => by cases hl
  | i :: r, o :: lops, listed, a, w, hl, hok, h => fun hcl => by
    have hsp := Region.noSelect_spec hsel
    simp only [List.map_cons, List.cons.injEq] at hl
    obtain ⟨ho, hl2⟩ := hl
    unfold okPre at hok
    rw [Bool.and_eq_true] at hok
    obtain ⟨h1, h2⟩ := hok
    rw [ho] at h1
    simp only at h1
    have hstep : wpOp P ops (NP Q) i (fun a' w' => TB P md ops Q L (k + r.length) (listed.setIfInBounds i true) a' w') a w := by
      unfold wpOp
      simp only [ho]
      unfold wpList at h
      split
      · rename_i hw
        rw [if_pos hw] at h
        rcases h with h | ⟨_, h⟩
        · exact .inl (wp_next (fun a' w' x => tb_pre_ hsel k r lops _ a' w' hl2 h2 x) h)
        · obtain ⟨_, _, h⟩ := h
          exact (h : False).elim
      · rename_i hw
        rw [if_neg hw] at h
        exact tb_pre_ hsel k r lops _ _ _ hl2 h2 h
    show wpB P md ops (NP Q) L (k + r.length + 1) listed a w
    split at h1
    · rename_i hk
      simp only [Bool.and_eq_true] at h1
      have hr : i ∈ Region.ready md ops listed := by simpa using h1.1
      obtain ⟨v, hy, hK⟩ := blind_first ho hk hstep
      exact wpB_first (fun _ => True) (fun _ _ _ _ => trivial) ho hsp (fun _ _ _ x => x) _ listed a w hcl (Region.free_spec ho h1.2) (.inl fun _ => trivial) hr hy trivial (hK (hcl.set hr))
    · rename_i hk
      simp only [Bool.and_eq_true] at h1
      have hr : i ∈ Region.ready md ops listed := by simpa using h1.1.1
      obtain ⟨v, hy, hK⟩ := looks_first ho hk hstep
      refine wpB_first (fun x => Below w.heap.size w x) (fun x y hx hxy => hx.trans (hxy.mono hx.size)) ho hsp (fun _ _ _ x => x) _ listed a w hcl (Region.free_spec ho h1.1.2) (.inr fun j hj hji hkj => ?_) hr hy (Below.refl _ _) (hK (hcl.set hr))
      have hlt : j < ops.size := by
        rcases Nat.lt_or_ge j listed.size with h' | h'
        · rw [hcl.size] at h'; exact h'
        · simp [Array.getElem?_eq_none h'] at hj
      have := List.all_eq_true.1 h1.2 j (List.mem_range.2 hlt)
      simp only [hj, hkj, Bool.false_or, Bool.or_eq_true, beq_iff_eq, hji, false_or, Bool.or_false] at this
      exact ⟨_, this⟩
    · cases h1
theorem tb_pre {k m : Nat} {listed : Array Bool} {a : Act} {w : World} (l : List Nat) (lops : List Oper) (hsel : Region.noSelect ops = true) (hk : m = k + l.length) (hl : l.map (ops[·]?) = lops.map some) (hok : okPre P md ops L l listed = true)
    (h : wpList P ops (NX (NP Q) fun a' w' => TB P md ops Q L k (l.foldl (fun x i => x.setIfInBounds i true) listed) a' w') lops a w) : TB P md ops Q L m listed a w := by
  subst hk
  exact tb_pre_ hsel k l lops listed a w hl hok h
/-- Two may come up next. -/
theorem tb_fork {i j k : Nat} {oi oj : Oper} {listed : Array Bool} {a : Act} {w : World} (hr : Region.ready md ops listed = [i, j]) (hi : ops[i]? = some oi) (hj : ops[j]? = some oj)
    (h1 : wpList P ops (NX (NP Q) fun a' w' => Below w.heap.size w w' ∧ TB P md ops Q L k (listed.setIfInBounds i true) a' w') [oi] a w)
    (h2 : wpList P ops (NX (NP Q) fun a' w' => Below w.heap.size w w' ∧ TB P md ops Q L k (listed.setIfInBounds j true) a' w') [oj] a w) : TB P md ops Q L (k + 1) listed a w := fun hcl =>
  ⟨fun h0 => absurd h0 (by rw [hr]; simp), fun m hm => by
    have hm' := hm
    rw [hr] at hm'
    simp only [List.mem_cons, List.not_mem_nil, or_false] at hm'
    rcases hm' with rfl | rfl
    · exact wpOp_mono (fun a' w' x => ⟨fun _ => x.1, x.2 (hcl.set hm)⟩) (wpOp_of_list hi h1)
    · exact wpOp_mono (fun a' w' x => ⟨fun _ => x.1, x.2 (hcl.set hm)⟩) (wpOp_of_list hj h2)⟩
theorem nx_tb {k : Nat} {listed : Array Bool} {a : Act} {w : World} (h : TB P md ops Q L k listed a w) : NX (NP Q) (fun a' w' => TB P md ops Q L k listed a' w') .normal a w := h
theorem nx_tb2 {k : Nat} {listed : Array Bool} {a : Act} {w0 w : World} (hb : Below w0.heap.size w0 w) (h : TB P md ops Q L k listed a w) : NX (NP Q) (fun a' w' => Below w0.heap.size w0 w' ∧ TB P md ops Q L k listed a' w') .normal a w := ⟨hb, h⟩
end
end Go.Proofs.Ytomncfiklkhfjaa.Ord
