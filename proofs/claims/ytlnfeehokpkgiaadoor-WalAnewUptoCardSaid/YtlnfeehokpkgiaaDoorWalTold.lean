/- Rows of the law's own beside a journal. -/
import Derived.Test.YtlnfeehokpkgiaaDoorWalShown
namespace Go.Proofs.YtlnfeehokpkgiaaDoor.Wal
open Go Go.RowKit Mem Pl Disk Crc _root_.Go.Proofs.YtlnfeehokpkgiaaDoor.Frame
section
variable {B : Nat} {w w1 w' : World} {F F' K K' J : Nat → Prop} {a n n' dev N g size : Nat} {pm pm' : PM} {H : List (List UInt8)} {G E S nx : Nat} {txs : List Tx} {t : TypeId} {v : Value} {xs : List Value}
theorem FrE.vec (h : FrE B w F K a pm n dev F' K' pm' w') (x : Vec w (Calm B F K) t size v n' xs) : Vec w' (Calm B F' K') t size v n' xs := by
  have x1 : Vec w (fun k => Calm B F K k ∧ k < w.heap.size) t size v n' xs := x.mono fun k hk hc => ⟨hc, hk⟩
  have x2 : Vec w' (fun k => Calm B F K k ∧ k < w.heap.size) t size v n' xs := x1.mods h.mods fun k hk hc => ⟨hk, fun hh => hh.elim hc.1.2.1 hc.1.2.2⟩
  exact x2.mono fun k _ hc => ⟨hc.1.1, fun hF => (h.grow k hF).elim hc.1.2.1 fun h1 => by have := hc.2; omega, fun hK => (h.growK k hK).elim hc.1.2.2 fun h1 => by have := hc.2; omega⟩
/-- What turns beside a journal. -/
theorem Onz.mods (x : Onz B w F K a pm n dev N H G E S nx txs) (hm : Mods w.heap.size J w w') (hJ : ∀ k, J k → B ≤ k ∧ ¬ F k ∧ ¬ K k) : Onz B w' F K a pm n dev N H G E S nx txs :=
  ⟨⟨x.st.at_.mods hm fun k hk hF => ⟨hk, fun h => (hJ k h).2.1 hF⟩, x.st.ok, fun k hk => ⟨(x.st.lt k hk).1, hm.lt (x.st.lt k hk).2⟩, x.st.steps, x.st.waits⟩, x.disk, x.on, x.fuse, x.jr,
    fun k hk => ⟨(x.kok k hk).1, (x.kok k hk).2.1, hm.lt (x.kok k hk).2.2⟩, Nat.le_trans x.size hm.size, x.tab.below ((hm.mono x.size fun _ _ h => h).below fun k hk h => by have := (hJ k h).1; omega) x.gc, x.gc⟩
/-- New blocks, grown. -/
theorem mods_grow {row : Option Nat} (hb : Below w.heap.size w w1) (hg : w1.grownBy w' row) (hr : row = none ∨ ∃ g cs, row = some g ∧ J g ∧ w1.heap[g]? = some (Obj.cells cs t (0, 0))) : Mods w.heap.size J w w' :=
  (Mods.of_below hb).grown hg hb.size fun k hk => by
    rcases hr with h | ⟨k', cs, h, hj, _⟩
    · rw [h] at hk; cases hk
    · rw [h] at hk
      injection hk with hk
      exact .inl (hk ▸ hj)
/-- Transactions whose rows lie in a law's arguments. -/
def ToldAt (W : World) (w : World) (J : Nat → Prop) (txs : List Tx) (v : Value) : Prop :=
  ∃ vs, Vec w J 42 1 v txs.length vs ∧ ∀ (k : Nat) (tx : Tx), txs[k]? = some tx → ∃ A c, vs[k]? = some (.slice A tx.length c) ∧ RowsAt W A tx
theorem ToldAt.rows {W : World} (x : ToldAt W w J txs v) (hb : Below W.heap.size W w) : ∃ A c, v = .slice A txs.length c ∧ TxRows w A txs := by
  obtain ⟨vs, h1, h2⟩ := x
  obtain ⟨A, c, rfl⟩ := h1.shape
  refine ⟨A, c, rfl, fun i tx hi => ?_⟩
  obtain ⟨B, cb, hu, ht⟩ := h2 i tx hi
  obtain ⟨g, rfl, hc⟩ := h1.cell i _ hu
  refine ⟨_, B, cb, rfl, ?_, ht.below hb⟩
  rw [add_off]
  simpa using hc
theorem ToldAt.frame {W : World} (x : ToldAt W w (Calm B F K) txs v) (h : FrE B w F K a pm n dev F' K' pm' w') : ToldAt W w' (Calm B F' K') txs v := by
  obtain ⟨vs, h1, h2⟩ := x
  exact ⟨vs, h.vec h1, h2⟩
/-- One more. -/
theorem ToldAt.snoc {W : World} {tx : Tx} {A : Option Addr} {c : Nat} {vs : List Value} {J' : Nat → Prop} (hv : Vec w' J' 42 1 v (txs.length + 1) (vs ++ [.slice A tx.length c])) (hl : vs.length = txs.length) (h : ∀ (k : Nat) (t : Tx), txs[k]? = some t → ∃ A c, vs[k]? = some (.slice A t.length c) ∧ RowsAt W A t) (ht : RowsAt W A tx) : ToldAt W w' J' (txs ++ [tx]) v := by
  refine ⟨vs ++ [.slice A tx.length c], by rw [List.length_append]; exact hv, fun k t hk => ?_⟩
  rcases Nat.lt_or_ge k txs.length with h1 | h1
  · rw [List.getElem?_append_left h1] at hk
    obtain ⟨B, cb, hy, hb⟩ := h k t hk
    exact ⟨B, cb, by rw [List.getElem?_append_left (by omega)]; exact hy, hb⟩
  · rw [List.getElem?_append_right h1] at hk
    obtain ⟨h2, h3⟩ := List.getElem?_eq_some_iff.1 hk
    have hk' : k = txs.length := by simp at h2; omega
    subst hk'
    simp at h3
    subst h3
    exact ⟨A, c, by rw [← hl]; simp, ht⟩
end
end Go.Proofs.YtlnfeehokpkgiaaDoor.Wal
