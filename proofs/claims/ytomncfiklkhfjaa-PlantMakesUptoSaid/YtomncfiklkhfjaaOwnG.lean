/- Slices that the call itself makes, of whatever elements: append, in terms of the list of cells. Over any program. No program's function is walked here. -/
import Derived.Test.YtomncfiklkhfjaaBytes
namespace Go.Proofs.Ytomncfiklkhfjaa.Mem
open Go.RowKit
/-- What a program's tables say of a slice of elements. -/
structure ElTy (P : Program) (t e : TypeId) (size bytes : Nat) (z : Value) : Prop where
  ht : P.underlying t = some (.slice e)
  hi : (P.info? e).map (fun i => (i.zero, i.size, i.bytes)) = some (some z, size, bytes)
  hz : z.cells.size = size
  h0 : 0 < size
theorem ElTy.info {P : Program} {t e : TypeId} {size bytes : Nat} {z : Value} (T : ElTy P t e size bytes z) : ∃ i, P.info? e = some i ∧ i.zero = some z ∧ i.size = size ∧ i.bytes = bytes := info_parts T.hi
/-- The slice A of n elements is the call's own and has these cells. -/
def OwnG (w : World) (base : Nat) (e : TypeId) (size : Nat) (A : Option Addr) (n c : Nat) (xs : List Value) : Prop := w.ownsRow base e size (.slice A n c) n xs
section
variable {w w' : World} {base : Nat} {e : TypeId} {size : Nat} {A : Option Addr} {n c n' : Nat} {xs : List Value}
theorem OwnG.len (h : OwnG w base e size A n c xs) : xs.length = n * size := h.1
theorem OwnG.form (h : OwnG w base e size A n c xs) : (A = none ∧ n = 0 ∧ c = 0) ∨ ∃ g, A = some ⟨g, 0, none⟩ ∧ base ≤ g ∧ g < w.heap.size := by
  rcases h.2 with ⟨h, rfl⟩ | ⟨g, cap, cur, h, hb, hh, hn, hm, _⟩
  · injection h with h1 _ h3; exact .inl ⟨h1, rfl, h3⟩
  · injection h with h1 _ h3
    refine .inr ⟨g, h1, hb, ?_⟩
    rcases Nat.lt_or_ge g w.heap.size with h' | h'
    · exact h'
    · rw [Array.getElem?_eq_none h'] at hh; cases hh
theorem OwnG.cap_le (h : OwnG w base e size A n c xs) : n ≤ c ∧ c ≤ maxLen := by
  rcases h.2 with ⟨h, rfl⟩ | ⟨g, cap, cur, h, _, _, hn, hm, _⟩
  · injection h with _ _ h3; subst h3; exact ⟨Nat.le_refl _, by unfold maxLen; omega⟩
  · injection h with _ _ h3; subst h3; exact ⟨hn, hm⟩
theorem OwnG.block (h : OwnG w base e size A n c xs) : (Value.slice A n c).ownBlock = A.map (·.block) := by cases A <;> rfl
/-- Each of its cells. -/
theorem OwnG.cell (h : OwnG w base e size A n c xs) (k : Nat) (v : Value) (hv : xs[k]? = some v) : ∃ g, A = some ⟨g, 0, none⟩ ∧ w.cell? ⟨g, k, none⟩ = some v := by
  rcases h.form with ⟨rfl, hn, _⟩ | ⟨g, rfl, _, _⟩
  · have := h.len
    have := (List.getElem?_eq_some_iff.1 hv).1
    simp_all
  · exact ⟨g, rfl, by have := h.cells (g := g) rfl k v hv; rwa [add_off, Nat.zero_add] at this⟩
theorem OwnG.kept {row : Option Nat} (h : OwnG w base e size A n c xs) (hg : w.grownBy w' row) (hne : A = none ∨ A.map (·.block) ≠ row) : OwnG w' base e size A n c xs :=
  World.ownsRow.kept h hg (by rcases hne with rfl | hne; exact .inl rfl; exact .inr (by rw [h.block]; exact hne))
theorem OwnG.below (h : OwnG w base e size A n c xs) (hb : Below w.heap.size w w') : OwnG w' base e size A n c xs := by
  refine ⟨h.1, ?_⟩
  rcases h.2 with h1 | ⟨g, cap, cur, h1, h2, hh, h3⟩
  · exact .inl h1
  · refine .inr ⟨g, cap, cur, h1, h2, ?_, h3⟩
    rw [hb.block g, hh]
    rcases Nat.lt_or_ge g w.heap.size with h' | h'
    · exact h'
    · rw [Array.getElem?_eq_none h'] at hh; cases hh
theorem OwnG.alloc (h : OwnG w base e size A n c xs) (o : Obj) : OwnG (w.alloc o) base e size A n c xs := World.ownsRow.alloc h o
theorem OwnG.drew (h : OwnG w base e size A n c xs) : OwnG w.drew base e size A n c xs := h
theorem OwnG.mono {base' : Nat} (h : OwnG w base e size A n c xs) (hb : base' ≤ base) : OwnG w base' e size A n c xs := by
  refine ⟨h.1, ?_⟩
  rcases h.2 with h1 | ⟨g, cap, cur, h1, h2, h3⟩
  · exact .inl h1
  · exact .inr ⟨g, cap, cur, h1, by omega, h3⟩
theorem OwnG.nil_ (w : World) (base : Nat) (e : TypeId) (size : Nat) : OwnG w base e size none 0 0 [] := World.ownsRow_nil w base e size
theorem OwnG.row_ge (h : OwnG w base e size A n c xs) : ∀ k, (Value.slice A n c).ownBlock = some k → base ≤ k := by
  intro k hk
  rcases h.form with ⟨rfl, _, _⟩ | ⟨g, rfl, hg, _⟩
  · cases hk
  · injection hk with hk; subst hk; exact hg
theorem OwnG.of_blk {g k : Nat} (h : Blk w g e xs.toArray) (hb : base ≤ g) (hn : xs.length = k * size) (hm : k ≤ maxLen) : OwnG w base e size (some ⟨g, 0, none⟩) k k xs :=
  ⟨hn, .inr ⟨g, k, _, rfl, hb, h, Nat.le_refl _, hm, by simp [hn], by simpa using List.take_of_length_le (by omega)⟩⟩
theorem OwnG.ne_lt {g : Nat} (h : OwnG w base e size A n c xs) (hg : g < base) : A.map (·.block) ≠ some g := by
  rcases h.form with ⟨rfl, _, _⟩ | ⟨g, rfl, hg, _⟩
  · simp
  · simp
    omega
end
section
variable {P : Program} {w : World}
theorem run_append_g (base : Nat) (t ty e : TypeId) (size bytes : Nat) (z : Value) (T : ElTy P t e size bytes z) (A : Option Addr) (n c : Nat) (xs : List Value) (hown : OwnG w base e size A n c xs)
    (ad : Addr) (m d : Nat) (news : List Value) (hl : news.length = m * size) (hnews : ∀ j u, news[j]? = some u → w.cell? (ad.add j) = some u) (h1 : ∀ u ∈ news, u.oneCell' = true)
    (hm : n + m ≤ maxLen) (hbytes : (n + m) * bytes ≤ 140737488355328) (hbase : base ≤ w.heap.size) :
    ∃ A' c' w', (Builtin.append_ #[t, t] ty #[.slice A n c, .slice (some ad) m d]).run P w = .ok (.slice A' (n + m) c') w' ∧ OwnG w' base e size A' (n + m) c' (xs ++ news) ∧ w.grownBy w' (Value.slice A n c).ownBlock ∧
      (A' = A ∨ A' = some ⟨w.heap.size, 0, none⟩) := by
  obtain ⟨i, hi, hz, hs, hby⟩ := T.info
  obtain ⟨v', w', hrun, h2, h3, _, h5⟩ := run_append_own_at (P := P) w base t ty e i z size bytes T.ht hi hz hs hby T.hz T.h0 (.slice A n c) n xs hown ad m d news hl hnews h1 hm hbytes hbase
  have hf := h2.2
  have hA : ∃ A' c', v' = .slice A' (n + m) c' := by
    rcases hf with ⟨h, h0⟩ | ⟨g, cap, cur, h, _⟩
    · exact ⟨none, 0, by rw [h, h0]⟩
    · exact ⟨_, _, h⟩
  obtain ⟨A', c', rfl⟩ := hA
  have hO : OwnG w' base e size A' (n + m) c' (xs ++ news) := h2
  refine ⟨A', c', w', hrun, hO, h3, ?_⟩
  have hown' : OwnG w base e size A n c xs := hown
  rcases h5 with h5 | h5
  · left
    rcases hO.form with ⟨rfl, _, _⟩ | ⟨g, rfl, _, _⟩ <;> rcases hown'.form with ⟨rfl, _, _⟩ | ⟨g', rfl, _, _⟩ <;> simp [Value.ownBlock] at h5 ⊢
    exact h5
  · right
    rcases hO.form with ⟨rfl, _, _⟩ | ⟨g, rfl, _, _⟩ <;> simp [Value.ownBlock] at h5 ⊢
    exact h5
theorem wp_append_g {o : Oper} {a : Act} {K : Act → World → Prop} {Q : Exit → Act → World → Prop} (s x : Operand) (t : TypeId)
    (ho : o.op = .call { callee := .builtin .append, args := #[s, x], argTypes := #[t, t] }) (base : Nat) (e : TypeId) (size bytes : Nat) (z : Value) (T : ElTy P t e size bytes z)
    (A : Option Addr) (n c : Nat) (xs : List Value) (hs : a.eval s = .slice A n c) (hown : OwnG w base e size A n c xs)
    (ad : Addr) (m d : Nat) (news : List Value) (hx : a.eval x = .slice (some ad) m d) (hl : news.length = m * size) (hnews : ∀ j u, news[j]? = some u → w.cell? (ad.add j) = some u) (h1 : ∀ u ∈ news, u.oneCell' = true)
    (hm : n + m ≤ maxLen) (hbytes : (n + m) * bytes ≤ 140737488355328) (hbase : base ≤ w.heap.size)
    (h : ∀ A' c' w', OwnG w' base e size A' (n + m) c' (xs ++ news) → w.grownBy w' (Value.slice A n c).ownBlock → Below base w w' → (A' = A ∨ A' = some ⟨w.heap.size, 0, none⟩) → K (a.put o.dst (.slice A' (n + m) c')) w') : o.wp P a w K Q := by
  obtain ⟨A', c', w', hrun, h2, h3, h4⟩ := run_append_g (P := P) base t o.type e size bytes z T A n c xs hown ad m d news hl hnews h1 hm hbytes hbase
  unfold Oper.wp execOp
  simp only [ho, resolve, invoke, builtin, Sem.run_bind, Sem.run_pure, Result.andThen_ok, List.map_toArray, List.map_cons, List.map_nil, hs, hx, hrun]
  exact h A' c' w' h2 h3 (World_grown_below h3 hbase hown.row_ge) h4
theorem wpList_append_g {ops : Array Oper} {rest : List Oper} {o : Oper} {a : Act} {Q : Exit → Act → World → Prop} (hgd : o.guard = none) (s x : Operand) (t : TypeId)
    (ho : o.op = .call { callee := .builtin .append, args := #[s, x], argTypes := #[t, t] }) (base : Nat) (e : TypeId) (size bytes : Nat) (z : Value) (T : ElTy P t e size bytes z)
    (A : Option Addr) (n c : Nat) (xs : List Value) (hs : a.eval s = .slice A n c) (hown : OwnG w base e size A n c xs)
    (ad : Addr) (m d : Nat) (news : List Value) (hx : a.eval x = .slice (some ad) m d) (hl : news.length = m * size) (hnews : ∀ j u, news[j]? = some u → w.cell? (ad.add j) = some u) (h1 : ∀ u ∈ news, u.oneCell' = true)
    (hm : n + m ≤ maxLen) (hbytes : (n + m) * bytes ≤ 140737488355328) (hbase : base ≤ w.heap.size)
    (h : ∀ A' c' w', OwnG w' base e size A' (n + m) c' (xs ++ news) → w.grownBy w' (Value.slice A n c).ownBlock → Below base w w' → (A' = A ∨ A' = some ⟨w.heap.size, 0, none⟩) → wpList P ops Q rest (a.put o.dst (.slice A' (n + m) c')) w') : wpList P ops Q (o :: rest) a w :=
  wpList_plain hgd fun _ hK => wp_append_g s x t ho base e size bytes z T A n c xs hs hown ad m d news hx hl hnews h1 hm hbytes hbase fun A' c' w' h2 h3 h4 h5 => hK _ _ (h A' c' w' h2 h3 h4 h5)
/-- 'copy' of bytes into the midst of a block of whatever cells. -/
theorem run_copy_mid (t e ty : TypeId) (T : ByteTy P t e) (g o dl dc te : Nat) (old : List Value) (hg : Blk w g te old.toArray) (B : Option Addr) (m d : Nat) (bs : List UInt8) (hb : BAt w B bs) (hm : bs.length = m) (h0 : 0 < m) (hk : m = dl) (hfit : o + m ≤ old.length) :
    ∃ w', (Builtin.copy_ #[t, t] ty #[.slice (some ⟨g, o, none⟩) dl dc, .slice B m d]).run P w = .ok (.int .i64 (m : Int)) w' ∧ Blk w' g te (old.take o ++ bs.map B8 ++ old.drop (o + m)).toArray ∧ w.grownBy w' (some g) ∧ w'.heap.size = w.heap.size := by
  obtain ⟨i, hi, hz, hs, hby⟩ := T.info
  obtain ⟨ad, rfl, hc⟩ := hb (by omega)
  subst hk
  have hrun := run_copy_row P w t t ty e g o m dc ad m d old.toArray te (bs.map B8) T.ht (by simp [hi, hs]) hg (by rw [List.length_map, hm]; exact (Nat.min_self m).symm) (by
    intro j v hv
    have hj : j < bs.length := by
      have := (List.getElem?_eq_some_iff.1 hv).1
      simpa using this
    rw [hc j hj]
    simp [hj, B8] at hv ⊢
    exact hv) (by simp; omega) (by intro v hv; obtain ⟨b, _, rfl⟩ := List.mem_map.1 hv; rfl)
  rw [List.length_map, hm] at hrun
  refine ⟨_, hrun, ?_, ?_, by simp [World.setRow]⟩
  · unfold Blk at hg ⊢
    simp [World.setRow, Array.getElem?_modify, hg]
  · refine ⟨rfl, rfl, rfl, by simp [World.setRow], fun j hj hne => ?_⟩
    have : g ≠ j := fun e => hne (by rw [e])
    simp [World.setRow, Array.getElem?_modify, this]
theorem step_copy_mid {ops : Array Oper} {o : Oper} {a : Act} {K : Act → World → Prop} {Q : Exit → Act → World → Prop} {E : Prop} (hgd : o.guard = none) (s x : Operand) (t : TypeId)
    (ho : o.op = .call { callee := .builtin .copy, args := #[s, x], argTypes := #[t, t] }) (e : TypeId) (T : ByteTy P t e) (g off dl dc te : Nat) (old : List Value) (hs : a.eval s = .slice (some ⟨g, off, none⟩) dl dc)
    (hg : Blk w g te old.toArray) (B : Option Addr) (m d : Nat) (bs : List UInt8) (hx : a.eval x = .slice B m d) (hb : BAt w B bs) (hm : bs.length = m) (h0 : 0 < m) (hk : m = dl) (hfit : off + m ≤ old.length)
    (h : ∀ w', Blk w' g te (old.take off ++ bs.map B8 ++ old.drop (off + m)).toArray → w.grownBy w' (some g) → w'.heap.size = w.heap.size → K (a.put o.dst (.int .i64 (m : Int))) w') :
    if Region.wanted o (yielded ops a.tmps) = true then Oper.wp P o a w K Q else E := by
  have hw : Region.wanted o (yielded ops a.tmps) = true := by simp [Region.wanted, hgd]
  rw [if_pos hw]
  obtain ⟨w', hrun, h2, h3, h4⟩ := run_copy_mid (P := P) (w := w) t e o.type T g off dl dc te old hg B m d bs hb hm h0 hk hfit
  unfold Oper.wp execOp
  simp only [ho, resolve, invoke, builtin, Sem.run_bind, Sem.run_pure, Result.andThen_ok, List.map_toArray, List.map_cons, List.map_nil, hs, hx, hrun]
  exact h w' h2 h3 h4
/-- The cells of a block that is known whole, as append asks for them. -/
theorem blk_news {g : Nat} {t : TypeId} {cs : List Value} (h : Blk w g t cs.toArray) : ∀ j u, cs[j]? = some u → w.cell? ((⟨g, 0, none⟩ : Addr).add j) = some u := fun j u hu => by
  rw [add_off, Nat.zero_add, h.cell]
  simpa using hu
end
end Go.Proofs.Ytomncfiklkhfjaa.Mem
