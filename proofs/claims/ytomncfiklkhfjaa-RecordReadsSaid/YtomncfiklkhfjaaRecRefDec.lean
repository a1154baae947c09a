/- What the reference's 'Decode' has in memory. -/
import Derived.Test.YtomncfiklkhfjaaRecRefRead
import Derived.Test.YtomncfiklkhfjaaTwoHeld
namespace Go.Proofs.Ytomncfiklkhfjaa.Rec
open Go.RowKit Mem Crc _root_.Go.Proofs.Ytomncfiklkhfjaa.Frame
theorem copiesM_len : ∀ (k : Nat) (bs : List UInt8) (l : List Cpy) (left : List UInt8), copiesM k bs = some (l, left) → bs.length = left.length + 5 * k
  | 0, bs, l, left, h => by
    simp [copiesM] at h
    simp [h.2]
  | k + 1, bs, l, left, h => by
    unfold copiesM at h
    split at h
    · rename_i h5
      cases hc : copiesM k (bs.drop 5) with
      | none => rw [hc] at h; simp at h
      | some x =>
        rw [hc] at h
        simp at h
        have := copiesM_len k (bs.drop 5) x.1 x.2 hc
        rw [List.length_drop] at this
        rw [← h.2]
        omega
    · simp at h
theorem restM_long {id rest : List UInt8} (h : rest.length ≠ 46 + 5 * (rest.getD 45 0).toNat) : restM id rest = none := by
  by_cases h46 : 46 ≤ rest.length
  · cases hc : copiesM (rest.getD 45 0).toNat (rest.drop 46) with
    | none => exact restM_none hc
    | some x =>
      obtain ⟨l, left⟩ := x
      cases left with
      | nil =>
        have := copiesM_len _ _ _ _ hc
        rw [List.length_drop, List.length_nil] at this
        omega
      | cons c r => exact restM_left hc
  · exact restM_short (by omega)
def R.withRoot (r : R) (root : List UInt8) (h : root.length = 32) : R := { r with root := root, h32 := h }
theorem set_rootk (r : R) (C : Option Addr) (cap k : Nat) (c : UInt8) (hk : k < 32) : (r.cells C cap).toArray.setIfInBounds (2 + k) (.int .u8 (V8 c)) = ((r.withRoot (r.root.set k c) (by simp [r.h32])).cells C cap).toArray := by
  have h := r.h32
  simp only [R.cells, R.withRoot, List.setIfInBounds_toArray]
  congr 1
  rw [List.set_append_left _ _ (by simp [h]; omega), List.set_append_right _ _ (by simp)]
  simp [List.map_set, B8]
/-- The zero result, the record as it stands. -/
structure Fs (w wr : World) (r : R) (C : Option Addr) (cap : Nat) : Prop where
  res : Blk wr w.heap.size 26 (zeroR.cells none 0).toArray
  blk : Blk wr (w.heap.size + 1) 26 (r.cells C cap).toArray
  below : Below w.heap.size w wr
  own : OwnG wr (w.heap.size + 2) 82 4 C r.copies.length cap (cpyCells r.copies)
section
variable {w wr w2 : World} {r r' : R} {C : Option Addr} {cap : Nat}
theorem Fs.alloc (h : Fs w wr r C cap) (o : Obj) : Fs w (wr.alloc o) r C cap := ⟨h.res.alloc o, h.blk.alloc o, h.below.alloc h.below.size o, h.own.alloc o⟩
theorem Fs.drew (h : Fs w wr r C cap) : Fs w wr.drew r C cap := ⟨h.res.drew, h.blk.drew, below_drewN h.below 1, h.own.drew⟩
theorem Fs.to (h : Fs w wr r C cap) (hb : Below wr.heap.size wr w2) : Fs w w2 r C cap := ⟨h.res.below_ hb, h.blk.below_ hb, h.below.trans (hb.mono h.below.size), h.own.below hb⟩
theorem Fs.turned (h : Fs w wr r C cap) (hg : wr.grownBy w2 (some (w.heap.size + 1))) (hb : Blk w2 (w.heap.size + 1) 26 (r'.cells C cap).toArray) (hc : r'.copies = r.copies) : Fs w w2 r' C cap :=
  ⟨h.res.grown hg (by simp), hb, h.below.grown hg h.below.size (fun k hk => by injection hk with hk; omega), by rw [hc]; exact h.own.kept hg (.inr (h.own.ne_lt (by omega)))⟩
theorem Fs.set_ (h : Fs w wr r C cap) (i : Nat) (v : Value) (e : (r.cells C cap).toArray.setIfInBounds i v = (r'.cells C cap).toArray) (hc : r'.copies = r.copies) : Fs w (wr.setCell ⟨w.heap.size + 1, i, none⟩ v) r' C cap :=
  h.turned (grownBy_setCell wr _ v _ rfl) (by rw [← e]; exact h.blk.set_ i v) hc
theorem Fs.made (h : Blk w2 (w.heap.size + 1) 26 (r.cells none 0).toArray) (hg : ((w.alloc (.cells (zeroR.cells none 0).toArray 26)).alloc (.cells (zeroR.cells none 0).toArray 26)).grownBy w2 (some (w.heap.size + 1))) (hc : r.copies = []) : Fs w w2 r none 0 :=
  ⟨((Blk.new w _ _).alloc _).grown hg (by simp), h, (((Below.refl _ _).alloc (Nat.le_refl _) _).alloc (by simp) _).grown hg (by simp; omega) (fun k hk => by injection hk with hk; omega), by rw [hc]; exact OwnG.nil_ _ _ _ _⟩
theorem Fs.append {C' : Option Addr} {c' n0 c0 : Nat} {q : Cpy} (h : Fs w wr r C cap) (hg : wr.grownBy w2 (Value.slice C n0 c0).ownBlock) (ho : OwnG w2 (w.heap.size + 2) 82 4 C' (r.copies.length + 1) c' (cpyCells r.copies ++ q.cells)) :
    Blk w2 (w.heap.size + 1) 26 (r.cells C cap).toArray ∧ Fs w (w2.setCell ⟨w.heap.size + 1, 38, none⟩ (.slice C' (r.copies.length + 1) c')) { r with copies := r.copies ++ [q] } C' c' := by
  have hrow : (Value.slice C n0 c0).ownBlock = C.map (·.block) := by cases C <;> rfl
  have hne : ∀ g, g < w.heap.size + 2 → some g ≠ (Value.slice C n0 c0).ownBlock := fun g hgl => by rw [hrow]; exact Ne.symm (h.own.ne_lt hgl)
  have hb := h.blk.grown hg (hne _ (by omega))
  refine ⟨hb, (h.res.grown hg (hne _ (by omega))).far (by simp) _, ?_, ?_, ?_⟩
  · have := set_copies r C cap (r.copies ++ [q]) C' c'
    rw [List.length_append, List.length_singleton] at this
    rw [← this]
    exact hb.set_ 38 _
  · exact (h.below.grown hg h.below.size (fun k hk => by
      rw [hrow] at hk
      rcases h.own.form with ⟨rfl, _, _⟩ | ⟨g, rfl, hgg, _⟩
      · cases hk
      · injection hk with hk; subst hk; show w.heap.size ≤ g; omega)).setCell (by simp) _
  · have e1 : (r.copies ++ [q]).length = r.copies.length + 1 := by simp
    show OwnG _ _ _ _ _ (r.copies ++ [q]).length _ _
    rw [cpyCells_snoc, e1]
    exact ho.kept (grownBy_setCell w2 _ _ _ rfl) (.inr (ho.ne_lt (by simp)))
theorem Fs.empty {wr : World} {r : R} (h : Fs w wr r none 0) (hc : r.copies = []) : Fs w wr { r with copies := [] } none 0 := by
  obtain ⟨id, len, root, idx, exp, hold, gone, copies, h32⟩ := r
  dsimp only at hc
  subst hc
  exact h
end
/-- At the head of a round of the first loop. -/
def RootRelF (w : World) (r : R) (root : List UInt8) (iv : Value) (wr : World) : Prop :=
  ∃ (k : Nat) (h : (root.take k ++ List.replicate (32 - k) 0).length = 32), k ≤ 32 ∧ iv = .int .i64 k ∧ Fs w wr (r.withRoot (root.take k ++ List.replicate (32 - k) 0) h) none 0
theorem RootRelF.step {w wr : World} {r : R} {root : List UInt8} {k : Nat} {c : UInt8} {hrk : (root.take k ++ List.replicate (32 - k) 0).length = 32} (h : Fs w wr (r.withRoot (root.take k ++ List.replicate (32 - k) 0) hrk) none 0) (hlt : k < 32) (hl : root.length = 32) (hc : root.getD k 0 = c) :
    RootRelF w r root (.int .i64 ((k : Int) + 1)) (wr.setCell ⟨w.heap.size + 1, 2 + k, none⟩ (.int .u8 (V8 c))) := by
  have e := root_step root k hlt hl
  rw [hc] at e
  have h1 : (root.take (k + 1) ++ List.replicate (32 - (k + 1)) 0).length = 32 := by simp [hl]; omega
  refine ⟨k + 1, h1, hlt, by simp, ?_⟩
  refine h.set_ (2 + k) _ ?_ rfl
  rw [set_rootk _ _ _ k c hlt]
  simp only [R.withRoot, e]
theorem RootRelF.done {w wr : World} {r : R} {root : List UInt8} {hrk : (root.take 32 ++ List.replicate (32 - 32) 0).length = 32} (h : Fs w wr (r.withRoot (root.take 32 ++ List.replicate (32 - 32) 0) hrk) none 0) (hl : root.length = 32) : Fs w wr (r.withRoot root hl) none 0 := by
  have e : root.take 32 ++ List.replicate (32 - 32) 0 = root := by rw [List.take_of_length_le (by omega)]; simp
  simp only [e] at h
  exact h
theorem bat_off {w : World} {a : Addr} {bs : List UInt8} (h : BAt w (some a) bs) (j : Nat) (hj : 0 < j) : BAt w (some ⟨a.block, a.off + j, none⟩) (bs.drop j) := by
  have := h.cut (bs.length + j + 1) j (by omega)
  rw [cutA, if_neg (by omega), Option.map_some, Addr.add, if_neg (by omega)] at this
  exact this
theorem bat_at {w : World} {a : Addr} {bs : List UInt8} (h : BAt w (some a) bs) (j : Nat) (hj : 0 < j) (hl : j < bs.length) : w.cell? ⟨a.block, a.off + j, none⟩ = some (.int .u8 ((bs.getD j 0).toNat : Int)) := by
  obtain ⟨ad', e, hc⟩ := h (by omega)
  injection e with e; subst e
  have := hc j hl
  rw [Addr.add, if_neg (by omega)] at this
  exact this
theorem mod2_nat (f : Nat) : ((f : Int) % 2 == 1) = (f % 2 == 1) := by rw [Bool.eq_iff_iff]; simp; omega
theorem div2_nat (f : Nat) : ((f : Int) / 2 % 2 == 1) = (f / 2 % 2 == 1) := by rw [Bool.eq_iff_iff]; simp; omega
/-- At the head of a round of the second. -/
def DecRelF (w : World) (r : R) (k : Nat) (body : List UInt8) (iv : Value) (wr : World) : Prop :=
  ∃ (i : Nat) (done : List Cpy) (C : Option Addr) (capC : Nat), i ≤ k ∧ iv = .int .i64 i ∧ done.length = i ∧ copiesM k body = (copiesM (k - i) (body.drop (5 * i))).map (fun x => (done ++ x.1, x.2)) ∧
    Fs w wr { r with copies := done } C capC
theorem step_append_g {P : Program} {w : World} {ops : Array Oper} {o : Oper} {a : Act} {K : Act → World → Prop} {Q : Exit → Act → World → Prop} {E : Prop} (hgd : o.guard = none) (s x : Operand) (t : TypeId)
    (ho : o.op = .call { callee := .builtin .append, args := #[s, x], argTypes := #[t, t] }) (base : Nat) (e : TypeId) (size bytes : Nat) (z : Value) (T : ElTy P t e size bytes z)
    (A : Option Addr) (n c : Nat) (xs : List Value) (hs : a.eval s = .slice A n c) (hown : OwnG w base e size A n c xs)
    (ad : Addr) (m d : Nat) (news : List Value) (hx : a.eval x = .slice (some ad) m d) (hl : news.length = m * size) (hnews : ∀ j u, news[j]? = some u → w.cell? (ad.add j) = some u) (h1 : ∀ u ∈ news, u.oneCell' = true)
    (hm : n + m ≤ maxLen) (hbytes : (n + m) * bytes ≤ 140737488355328) (hbase : base ≤ w.heap.size)
    (h : ∀ A' c' w', OwnG w' base e size A' (n + m) c' (xs ++ news) → w.grownBy w' (Value.slice A n c).ownBlock → Below base w w' → (A' = A ∨ A' = some ⟨w.heap.size, 0, none⟩) → K (a.put o.dst (.slice A' (n + m) c')) w') :
    if Region.wanted o (yielded ops a.tmps) = true then Oper.wp P o a w K Q else E := by
  rw [if_pos (by simp [Region.wanted, hgd])]
  exact wp_append_g s x t ho base e size bytes z T A n c xs hs hown ad m d news hx hl hnews h1 hm hbytes hbase h
end Go.Proofs.Ytomncfiklkhfjaa.Rec
