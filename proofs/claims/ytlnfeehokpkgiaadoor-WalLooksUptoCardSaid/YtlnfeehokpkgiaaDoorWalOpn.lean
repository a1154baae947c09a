/- Transactions in memory; what a journal's 'Open' leaves. -/
import Derived.Test.YtlnfeehokpkgiaaDoorWalRead
namespace Go.Proofs.YtlnfeehokpkgiaaDoor.Wal
open Go Go.RowKit Mem Pl Disk Crc _root_.Go.Proofs.YtlnfeehokpkgiaaDoor.Frame
theorem txTy : ElTy Tryd.prog 38 42 1 24 (.slice none 0 0) := ⟨Tryd.underlying38, by kernel_rfl, by kernel_rfl, by decide⟩
/-- A row of transactions; it lies in blocks of J. -/
def TxsAt (w : World) (J : Nat → Prop) (txs : List Tx) (v : Value) : Prop := ∃ vs, Vec w J 42 1 v txs.length vs ∧ ∀ (k : Nat) (tx : Tx), txs[k]? = some tx → ∃ u, vs[k]? = some u ∧ TxAt w J tx u
/-- Blocks of those types are as they were. -/
def Same (w w' : World) (e : TypeId) : Prop := ∀ (g : Nat) (cs : Array Value), w.heap[g]? = some (Obj.cells cs e (0, 0)) → w'.heap[g]? = some (Obj.cells cs e (0, 0))
section
variable {w w' : World} {J J' F : Nat → Prop} {tx : Tx} {txs : List Tx} {v : Value}
theorem TxAt.same (x : TxAt w J tx v) (h5 : Same w w' 5) (h32 : Same w w' 32) : TxAt w' J tx v := by
  obtain ⟨vs, h1, h2⟩ := x
  exact ⟨vs, h1.heap h32, fun k b hb => (h2 k b hb).imp fun _ h => ⟨h.1, Vec.heap h.2 h5⟩⟩
theorem TxsAt.same (x : TxsAt w J txs v) (h5 : Same w w' 5) (h32 : Same w w' 32) (h42 : Same w w' 42) : TxsAt w' J txs v := by
  obtain ⟨vs, h1, h2⟩ := x
  exact ⟨vs, h1.heap h42, fun k t ht => (h2 k t ht).imp fun _ h => ⟨h.1, h.2.same h5 h32⟩⟩
theorem TxsAt.mods {B : Nat} (x : TxsAt w J txs v) (hm : Mods B F w w') (hn : ∀ g, g < w.heap.size → J g → g < B ∧ ¬ F g) : TxsAt w' J txs v := by
  obtain ⟨vs, h1, h2⟩ := x
  exact ⟨vs, h1.mods hm hn, fun k t ht => (h2 k t ht).imp fun _ h => ⟨h.1, h.2.mods hm hn⟩⟩
theorem TxsAt.mono (x : TxsAt w J txs v) (hF : ∀ g, g < w.heap.size → J g → J' g) : TxsAt w J' txs v := by
  obtain ⟨vs, h1, h2⟩ := x
  exact ⟨vs, h1.mono hF, fun k t ht => (h2 k t ht).imp fun _ h => ⟨h.1, h.2.mono hF⟩⟩
theorem TxsAt.below (x : TxsAt w J txs v) (hb : Below w.heap.size w w') : TxsAt w' J txs v := by
  obtain ⟨vs, h1, h2⟩ := x
  exact ⟨vs, h1.below hb, fun k t ht => (h2 k t ht).imp fun _ h => ⟨h.1, h.2.below hb⟩⟩
theorem TxsAt.nil_ (w : World) (J : Nat → Prop) (A : Option Addr) : TxsAt w J [] (.slice A 0 0) := ⟨[], Vec.nil_ _ _ _ _ _, fun k t ht => by simp at ht⟩
theorem Same.of_below (hb : Below w.heap.size w w') (e : TypeId) : Same w w' e := fun g cs h => by
  rw [hb.block g (Array.getElem?_eq_some_iff.1 h).1, h]
theorem Same.grown {row : Option Nat} {t e : TypeId} (hg : w.grownBy w' row) (hr : row = none ∨ ∃ g cs, row = some g ∧ F g ∧ w.heap[g]? = some (Obj.cells cs t (0, 0))) (hne : t ≠ e) : Same w w' e := fun g cs hcs => by
  have hlt : g < w.heap.size := (Array.getElem?_eq_some_iff.1 hcs).1
  refine (hg.block g hlt ?_).trans hcs
  rcases hr with h | ⟨g', cs', h, _, hc⟩
  · rw [h]
    intro e
    cases e
  · rw [h]
    intro e
    injection e with e
    subst e
    rw [hcs] at hc
    injection hc with hc
    injection hc with _ h2
    exact absurd h2.symm hne
theorem Same.cell {g : Nat} {t e : TypeId} {cs0 : Array Value} (h : Blk w g t cs0) (hne : t ≠ e) (i : Nat) (u : Value) : Same w (w.setCell ⟨g, i, none⟩ u) e := fun k cs hcs => by
  have hk : k ≠ g := by
    intro e2
    subst e2
    have h' : w.heap[k]? = _ := h
    rw [hcs] at h'
    injection h' with h'
    injection h' with _ h2
    exact hne h2.symm
  have hm : Mods w.heap.size (fun j => j = g) w (w.setCell ⟨g, i, none⟩ u) := (Mods.refl w.heap.size (fun j => j = g) w).setCell (p := ⟨g, i, none⟩) (.inl rfl) u
  exact hm.heap (Array.getElem?_eq_some_iff.1 hcs).1 hk hcs
theorem Same.trans {w1 : World} {e : TypeId} (h : Same w w1 e) (k : Same w1 w' e) : Same w w' e := fun g cs hc => k g cs (h g cs hc)
end
/-- One more behind. -/
theorem TxsAt.snoc {w : World} {J : Nat → Prop} {txs : List Tx} {tx : Tx} {v u : Value} {vs : List Value} (hv : Vec w J 42 1 v (txs.length + 1) (vs ++ [u])) (hl : vs.length = txs.length) (h : ∀ (k : Nat) (t : Tx), txs[k]? = some t → ∃ y, vs[k]? = some y ∧ TxAt w J t y) (ht : TxAt w J tx u) : TxsAt w J (txs ++ [tx]) v := by
  refine ⟨vs ++ [u], by rw [List.length_append]; exact hv, fun k t hk => ?_⟩
  rcases Nat.lt_or_ge k txs.length with h1 | h1
  · rw [List.getElem?_append_left h1] at hk
    obtain ⟨y, hy, hb⟩ := h k t hk
    exact ⟨y, by rw [List.getElem?_append_left (by omega)]; exact hy, hb⟩
  · rw [List.getElem?_append_right h1] at hk
    obtain ⟨h2, h3⟩ := List.getElem?_eq_some_iff.1 hk
    have hk' : k = txs.length := by simp at h2; omega
    subst hk'
    simp at h3
    subst h3
    exact ⟨u, by rw [← hl]; simp, ht⟩
end Go.Proofs.YtlnfeehokpkgiaaDoor.Wal
