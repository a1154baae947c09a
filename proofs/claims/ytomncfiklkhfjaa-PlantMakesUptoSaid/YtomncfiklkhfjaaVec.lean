/- Words for objects in memory: what may have turned (Mods), slices of rows in blocks of a set F (Vec). Over any program. No program's function is walked here. -/
import Derived.Test.YtomncfiklkhfjaaOwnG
import Derived.Deep.MidRow
namespace Go.Proofs.Ytomncfiklkhfjaa.Mem
open Go Go.RowKit
/-- Below block number B only blocks of F have turned, and new ones are there. -/
structure Mods (B : Nat) (F : Nat → Prop) (w w' : World) : Prop where
  os : w'.os = w.os
  tape : w'.tape = w.tape
  output : w'.output = w.output
  size : w.heap.size ≤ w'.heap.size
  keep : ∀ k, k < B → ¬ F k → w'.heap[k]? = w.heap[k]?
section
variable {B : Nat} {F G : Nat → Prop} {w w1 w' : World}
theorem Mods.refl (B : Nat) (F : Nat → Prop) (w : World) : Mods B F w w := ⟨rfl, rfl, rfl, Nat.le_refl _, fun _ _ _ => rfl⟩
theorem Mods.trans (h : Mods B F w w1) (k : Mods B F w1 w') : Mods B F w w' :=
  ⟨k.os.trans h.os, k.tape.trans h.tape, k.output.trans h.output, Nat.le_trans h.size k.size, fun i hi hn => (k.keep i hi hn).trans (h.keep i hi hn)⟩
theorem Mods.mono {B' : Nat} (h : Mods B F w w') (hB : B' ≤ B) (hF : ∀ k, k < B' → F k → G k) : Mods B' G w w' :=
  ⟨h.os, h.tape, h.output, h.size, fun i hi hn => h.keep i (Nat.lt_of_lt_of_le hi hB) fun hf => hn (hF i hi hf)⟩
theorem Mods.of_below (h : Below B w w') : Mods B F w w' := ⟨h.os, h.tape, h.output, h.size, fun i hi _ => h.block i hi⟩
theorem Mods.below (h : Mods B F w w') (hF : ∀ k, k < B → ¬ F k) : Below B w w' := ⟨h.os, h.tape, h.output, h.size, fun i hi => h.keep i hi (hF i hi)⟩
theorem Mods.alloc (h : Mods B F w w') (hB : B ≤ w'.heap.size) (o : Obj) : Mods B F w (w'.alloc o) :=
  ⟨h.os, h.tape, h.output, Nat.le_trans h.size (by simp), fun i hi hn => (Below.heap_alloc w' o i (Nat.lt_of_lt_of_le hi hB)).trans (h.keep i hi hn)⟩
theorem Mods.setCell (h : Mods B F w w') {p : Addr} (hp : F p.block ∨ B ≤ p.block) (v : Value) : Mods B F w (w'.setCell p v) :=
  ⟨h.os, h.tape, h.output, by simpa [World.setCell] using h.size, fun i hi hn => (Below.heap_setCell w' p v i (by
    rintro rfl
    rcases hp with hp | hp
    · exact hn hp
    · omega)).trans (h.keep i hi hn)⟩
theorem Mods.drew (h : Mods B F w w') : Mods B F w w'.drew := ⟨h.os, h.tape, h.output, h.size, h.keep⟩
theorem Mods.drewN (h : Mods B F w w') (n : Nat) : Mods B F w (w'.drewN n) := ⟨h.os, h.tape, h.output, h.size, h.keep⟩
theorem Mods.then_below {C : Nat} (h : Mods B F w w1) (k : Below C w1 w') (hB : B ≤ C) : Mods B F w w' := h.trans ((Mods.of_below k).mono hB fun _ _ hf => hf)
theorem Mods.grown {row : Option Nat} (h : Mods B F w w1) (k : w1.grownBy w' row) (hB : B ≤ w1.heap.size) (hr : ∀ g, row = some g → F g ∨ B ≤ g) : Mods B F w w' :=
  ⟨k.os.trans h.os, k.tape.trans h.tape, k.output.trans h.output, Nat.le_trans h.size k.size, fun i hi hn => (k.block i (Nat.lt_of_lt_of_le hi hB) (fun e => by
    rcases hr i e.symm with hf | hf
    · exact hn hf
    · omega)).trans (h.keep i hi hn)⟩
theorem Mods.lt (h : Mods B F w w') {g : Nat} (hg : g < w.heap.size) : g < w'.heap.size := Nat.lt_of_lt_of_le hg h.size
theorem Mods.heap (h : Mods B F w w') {g : Nat} (hB : g < B) (hn : ¬ F g) {o : Obj} (ho : w.heap[g]? = some o) : w'.heap[g]? = some o := (h.keep g hB hn).trans ho
theorem Blk.mods {g : Nat} {t : TypeId} {cs : Array Value} (hb : Blk w g t cs) (h : Mods B F w w') (hB : g < B) (hn : ¬ F g) : Blk w' g t cs := h.heap hB hn hb
end
/-- The set F, and what has been made since w. -/
def Grow (F : Nat → Prop) (w w' : World) : Nat → Prop := fun g => F g ∨ (w.heap.size ≤ g ∧ g < w'.heap.size)
/-- The value v is a slice of n elements, these cells, in a block of F (or it is empty, with no room). -/
def Vec (w : World) (F : Nat → Prop) (e : TypeId) (size : Nat) (v : Value) (n : Nat) (xs : List Value) : Prop :=
  ∃ A cap, v = .slice A n cap ∧ xs.length = n * size ∧
    ((n = 0 ∧ cap = 0) ∨ ∃ g cur, A = some ⟨g, 0, none⟩ ∧ F g ∧ w.heap[g]? = some (.cells cur e (0, 0)) ∧ n ≤ cap ∧ cap ≤ maxLen ∧ cur.size = cap * size ∧ cur.toList.take (n * size) = xs)
section
variable {B : Nat} {F G : Nat → Prop} {w w1 w' : World} {e : TypeId} {size n : Nat} {v : Value} {xs : List Value}
theorem Vec.mono (h : Vec w F e size v n xs) (hF : ∀ g, g < w.heap.size → F g → G g) : Vec w G e size v n xs := by
  obtain ⟨A, cap, rfl, hl, h | ⟨g, cur, hA, hf, hh, hr⟩⟩ := h
  · exact ⟨A, cap, rfl, hl, .inl h⟩
  · exact ⟨A, cap, rfl, hl, .inr ⟨g, cur, hA, hF g (Array.getElem?_eq_some_iff.1 hh).1 hf, hh, hr⟩⟩
theorem Vec.mods (h : Vec w F e size v n xs) (hm : Mods B G w w') (hn : ∀ g, g < w.heap.size → F g → g < B ∧ ¬ G g) : Vec w' F e size v n xs := by
  obtain ⟨A, cap, rfl, hl, h | ⟨g, cur, hA, hf, hh, hr⟩⟩ := h
  · exact ⟨A, cap, rfl, hl, .inl h⟩
  · obtain ⟨h1, h2⟩ := hn g (Array.getElem?_eq_some_iff.1 hh).1 hf
    exact ⟨A, cap, rfl, hl, .inr ⟨g, cur, hA, hf, hm.heap h1 h2 hh, hr⟩⟩
theorem Vec.heap (h : Vec w F e size v n xs) (hk : ∀ (g : Nat) (cs : Array Value), w.heap[g]? = some (Obj.cells cs e (0, 0)) → w'.heap[g]? = some (Obj.cells cs e (0, 0))) : Vec w' F e size v n xs := by
  obtain ⟨A, cap, rfl, hl, h | ⟨g, cur, hA, hf, hh, hr⟩⟩ := h
  · exact ⟨A, cap, rfl, hl, .inl h⟩
  · exact ⟨A, cap, rfl, hl, .inr ⟨g, cur, hA, hf, hk _ _ hh, hr⟩⟩
theorem Vec.nil_ (w : World) (F : Nat → Prop) (e : TypeId) (size : Nat) (A : Option Addr) : Vec w F e size (.slice A 0 0) 0 [] := ⟨A, 0, rfl, by simp, .inl ⟨rfl, rfl⟩⟩
theorem Vec.below (h : Vec w F e size v n xs) (hb : Below w.heap.size w w') : Vec w' F e size v n xs :=
  h.mods (Mods.of_below (F := fun _ => False) hb) fun g hg _ => ⟨hg, fun x => x⟩
theorem Vec.alloc (h : Vec w F e size v n xs) (o : Obj) : Vec (w.alloc o) F e size v n xs := h.below ((Below.refl _ _).alloc (Nat.le_refl _) o)
theorem Vec.drew (h : Vec w F e size v n xs) : Vec w.drew F e size v n xs := h
/-- A row that a call owns lies in its own block. -/
theorem Vec.of_own {base : Nat} {A : Option Addr} {c : Nat} (h : OwnG w base e size A n c xs) (hF : ∀ g, base ≤ g → g < w.heap.size → F g) : Vec w F e size (.slice A n c) n xs := by
  refine ⟨A, c, rfl, h.1, ?_⟩
  rcases h.2 with ⟨h1, rfl⟩ | ⟨g, cap, cur, h1, h2, hh, h3⟩
  · injection h1 with _ _ h3
    exact .inl ⟨rfl, h3⟩
  · injection h1 with hA _ hc
    subst hA hc
    exact .inr ⟨g, cur, rfl, hF g h2 (Array.getElem?_eq_some_iff.1 hh).1, hh, h3⟩
theorem Vec.of_blk {g k : Nat} (h : Blk w g e xs.toArray) (hF : F g) (hn : xs.length = k * size) (hm : k ≤ maxLen) : Vec w F e size (.slice (some ⟨g, 0, none⟩) k k) k xs :=
  ⟨_, k, rfl, hn, .inr ⟨g, xs.toArray, rfl, hF, h, Nat.le_refl _, hm, by simp [hn], by simpa using List.take_of_length_le (by omega)⟩⟩
/-- What it is where it has elements. -/
theorem Vec.form (h : Vec w F e size v n xs) (h0 : 0 < n) : ∃ g cap cur, v = .slice (some ⟨g, 0, none⟩) n cap ∧ F g ∧ w.heap[g]? = some (.cells cur e (0, 0)) ∧ n ≤ cap ∧ cap ≤ maxLen ∧ cur.size = cap * size ∧ cur.toList.take (n * size) = xs := by
  obtain ⟨A, cap, rfl, hl, ⟨h1, _⟩ | ⟨g, cur, rfl, hr⟩⟩ := h
  · omega
  · exact ⟨g, cap, cur, rfl, hr⟩
theorem Vec.shape (h : Vec w F e size v n xs) : ∃ A cap, v = .slice A n cap := by obtain ⟨A, cap, rfl, _⟩ := h; exact ⟨A, cap, rfl⟩
theorem Vec.len (h : Vec w F e size v n xs) : xs.length = n * size := by obtain ⟨A, cap, rfl, hl, _⟩ := h; exact hl
theorem Vec.le (h : Vec w F e size v n xs) : n ≤ maxLen := by
  obtain ⟨A, cap, rfl, hl, ⟨h1, _⟩ | ⟨g, cur, rfl, _, _, h1, h2, _⟩⟩ := h
  · unfold maxLen; omega
  · omega
theorem Vec.cell {A : Option Addr} {cap : Nat} (h : Vec w F e size (.slice A n cap) n xs) (k : Nat) (u : Value) (hu : xs[k]? = some u) : ∃ g, A = some ⟨g, 0, none⟩ ∧ w.cell? ⟨g, k, none⟩ = some u := by
  obtain ⟨A', cap', he, hl, ⟨h1, _⟩ | ⟨g, cur, hA, _, hh, _, _, _, ht⟩⟩ := h
  · have := (List.getElem?_eq_some_iff.1 hu).1
    simp [hl, h1] at this
  · injection he with he
    subst he hA
    refine ⟨g, rfl, ?_⟩
    rw [← ht, List.getElem?_take] at hu
    split at hu
    · simpa [World.cell?, hh] using hu
    · cases hu
theorem Vec.at_ {g cap : Nat} (h : Vec w F e size (.slice (some ⟨g, 0, none⟩) n cap) n xs) {k : Nat} {u : Value} (hu : xs[k]? = some u) : w.cell? ⟨g, k, none⟩ = some u := by
  obtain ⟨g', he, hc⟩ := h.cell k u hu
  injection he with he
  injection he with he
  subst he
  exact hc
theorem Vec.range {g cap : Nat} (h : Vec w F e size (.slice (some ⟨g, 0, none⟩) n cap) n xs) (k : Nat) (row : List Value) (hr : ∀ j u, row[j]? = some u → xs[k + j]? = some u) : w.rangeAt g k row :=
  fun j u hu => h.at_ (hr j u hu)
theorem Vec.blockF {g cap : Nat} (h : Vec w F e size (.slice (some ⟨g, 0, none⟩) n cap) n xs) (h0 : 0 < n) : F g ∧ ∃ cur, w.heap[g]? = some (.cells cur e (0, 0)) := by
  obtain ⟨g', cap', cur, he, hf, hh, _⟩ := h.form h0
  injection he with he
  injection he with he
  injection he with he
  subst he
  exact ⟨hf, cur, hh⟩
theorem Vec.free {g cap : Nat} (h : Vec w F e size (.slice (some ⟨g, 0, none⟩) n cap) n xs) (h0 : 0 < n) (k : Nat) : w.frozen? ⟨g, k, none⟩ = false := by
  obtain ⟨_, cur, hh⟩ := h.blockF h0
  simp [World.frozen?, hh]
theorem Vec.set {g cap : Nat} (h : Vec w F e size (.slice (some ⟨g, 0, none⟩) n cap) n xs) (k : Nat) (u : Value) : Vec (w.setCell ⟨g, k, none⟩ u) F e size (.slice (some ⟨g, 0, none⟩) n cap) n (xs.set k u) := by
  obtain ⟨A', cap', he, hl, ⟨h1, h2⟩ | ⟨g', cur, hA, hf, hh, h1, h2, h3, h4⟩⟩ := h
  · refine ⟨_, _, he, by simpa using hl, .inl ⟨h1, h2⟩⟩
  · injection he with he _ hc
    subst he hc
    injection hA with hA
    injection hA with hA
    subst hA
    refine ⟨_, _, rfl, by simpa using hl, .inr ⟨g, cur.setIfInBounds k u, rfl, hf, ?_, h1, h2, by simpa using h3, ?_⟩⟩
    · simp [World.setCell, Array.getElem?_modify, hh]
    · rw [Array.toList_setIfInBounds, List.take_set, h4]
/-- Another block is written. -/
theorem Vec.far (h : Vec w F e size v n xs) {p : Addr} {t : TypeId} {cs : Array Value} {fz : Nat × Nat} (hp : w.heap[p.block]? = some (.cells cs t fz)) (hne : t ≠ e) (u : Value) : Vec (w.setCell p u) F e size v n xs :=
  h.heap fun g cs' hg => (Below.heap_setCell w p u g (by
    rintro rfl
    rw [hp] at hg
    injection hg with hg
    injection hg with _ hg
    exact hne hg)).trans hg
theorem Vec.far_ (h : Vec w F e size v n xs) {p : Addr} (hp : ∀ cs : Array Value, w.heap[p.block]? ≠ some (Obj.cells cs e (0, 0))) (u : Value) : Vec (w.setCell p u) F e size v n xs :=
  h.heap fun g cs' hg => (Below.heap_setCell w p u g (by
    rintro rfl
    exact hp _ hg)).trans hg
end
section
variable {P : Program} {F : Nat → Prop} {w : World} {e : TypeId} {size n : Nat} {v : Value} {xs : List Value}
/-- 'append' onto such a slice. -/
theorem run_append_vec (t ty : TypeId) (bytes : Nat) (z : Value) (T : ElTy P t e size bytes z) (hv : Vec w F e size v n xs)
    (ad : Addr) (m d : Nat) (news : List Value) (hl : news.length = m * size) (hnews : ∀ j u, news[j]? = some u → w.cell? (ad.add j) = some u) (h1 : ∀ u ∈ news, u.oneCell' = true)
    (hm : n + m ≤ maxLen) (hbytes : (n + m) * bytes ≤ 140737488355328) :
    ∃ v' w' row, (Builtin.append_ #[t, t] ty #[v, .slice (some ad) m d]).run P w = .ok v' w' ∧ Vec w' (Grow F w w') e size v' (n + m) (xs ++ news) ∧ w.grownBy w' row ∧
      (row = none ∨ ∃ g cs, row = some g ∧ F g ∧ w.heap[g]? = some (.cells cs e (0, 0))) := by
  obtain ⟨i, hi, hz, hs, hby⟩ := T.info
  obtain ⟨A, cap, rfl, hlen, ⟨rfl, rfl⟩ | ⟨g, cur, rfl, hf, hh, hnc, hcm, hcs, htk⟩⟩ := hv
  · have hx : xs = [] := List.eq_nil_of_length_eq_zero (by simpa using hlen)
    subst hx
    rcases A with _ | ⟨ad0⟩
    · obtain ⟨v', w', hrun, h2, h3, _, h5⟩ := run_append_own_at (P := P) w w.heap.size t ty e i z size bytes T.ht hi hz hs hby T.hz T.h0 (.slice none 0 0) 0 [] (World.ownsRow_nil w _ e size) ad m d news hl hnews h1 (by omega) (by simpa using hbytes) (Nat.le_refl _)
      have hA : ∃ A' c', v' = .slice A' (0 + m) c' := by
        rcases h2.2 with ⟨h, h0⟩ | ⟨g, cap, cur, h, _⟩
        · exact ⟨none, 0, by rw [h, h0]⟩
        · exact ⟨_, _, h⟩
      obtain ⟨A', c', rfl⟩ := hA
      exact ⟨_, w', none, hrun, Vec.of_own h2 (fun g hg hg' => .inr ⟨hg, hg'⟩), h3, .inl rfl⟩
    · by_cases hm0 : m = 0
      · subst hm0
        have hn : news = [] := List.eq_nil_of_length_eq_zero (by simpa using hl)
        subst hn
        refine ⟨.slice (some ad0) 0 0, w, none, ?_, Vec.nil_ _ _ _ _ _, World.grownBy.refl w _, .inl rfl⟩
        simp [Builtin.append_, run_underlying T.ht, sizeOf, typeInfo, hi, Builtin.lenOf, Builtin.firstCells, loadCells, loadCellsFrom, storeCells]
      · subst hs hby
        have hr := run_append_grow (P := P) w t ty e i z T.ht hi hz ad0 0 0 [] (by simp) (by simp) ad m d news hl hnews (by omega) (by unfold maxLen at hm; omega) (growslice_fits (by omega) (by simpa using hbytes))
        refine ⟨_, _, none, hr, ?_, ⟨rfl, rfl, rfl, by simp, fun k hk _ => Below.heap_alloc w.drew _ k hk⟩, .inl rfl⟩
        have hge := grownCap_ge w (0 + m) 0 e
        have hcm : grownCap w (0 + m) 0 e ≤ maxLen := grownCap_le_maxLen w (0 + m) 0 e hm
        refine ⟨_, _, rfl, by simpa using hl, .inr ⟨w.heap.size, _, rfl, .inr ⟨Nat.le_refl _, by simp⟩, heap_alloc_new w.drew _, hge, hcm, ?_, ?_⟩⟩
        · simp only [Array.size_append, List.size_toArray, size_zeroCells, T.hz, hl, List.length_nil, Nat.zero_add, ← Nat.add_mul]
          congr 1
          simp only [Nat.zero_add] at hge ⊢
          omega
        · simp only [Array.toList_append, List.append_assoc, List.nil_append, Nat.zero_add]
          rw [← hl]
          exact List.take_left
  · obtain ⟨v', w', hrun, h2, h3, _, h5⟩ := run_append_own_at (P := P) w (min g w.heap.size) t ty e i z size bytes T.ht hi hz hs hby T.hz T.h0 (.slice (some ⟨g, 0, none⟩) n cap) n xs
      ⟨hlen, .inr ⟨g, cap, cur, rfl, Nat.min_le_left _ _, hh, hnc, hcm, hcs, htk⟩⟩ ad m d news hl hnews h1 hm hbytes (Nat.min_le_right _ _)
    refine ⟨v', w', some g, hrun, ?_, h3, .inr ⟨g, cur, rfl, hf, hh⟩⟩
    rcases h2.2 with ⟨h, h0⟩ | ⟨g', cap', cur', h, _, hh', hr⟩
    · subst h
      exact ⟨none, 0, by rw [h0], h2.1, .inl ⟨h0, rfl⟩⟩
    · subst h
      refine ⟨_, _, rfl, h2.1, .inr ⟨g', cur', rfl, ?_, hh', hr⟩⟩
      have hlt := (Array.getElem?_eq_some_iff.1 hh').1
      rcases h5 with h5 | h5
      · simp [Value.ownBlock] at h5
        subst h5
        exact .inl hf
      · simp [Value.ownBlock] at h5
        subst h5
        exact .inr ⟨Nat.le_refl _, hlt⟩
theorem wpList_append_vec {ops : Array Oper} {rest : List Oper} {o : Oper} {a : Act} {Q : Exit → Act → World → Prop} (hgd : o.guard = none) (s x : Operand) (t : TypeId)
    (ho : o.op = .call { callee := .builtin .append, args := #[s, x], argTypes := #[t, t] }) (bytes : Nat) (z : Value) (T : ElTy P t e size bytes z)
    (hs : a.eval s = v) (hv : Vec w F e size v n xs)
    (ad : Addr) (m d : Nat) (news : List Value) (hx : a.eval x = .slice (some ad) m d) (hl : news.length = m * size) (hnews : ∀ j u, news[j]? = some u → w.cell? (ad.add j) = some u) (h1 : ∀ u ∈ news, u.oneCell' = true)
    (hm : n + m ≤ maxLen) (hbytes : (n + m) * bytes ≤ 140737488355328)
    (h : ∀ v' w' row, Vec w' (Grow F w w') e size v' (n + m) (xs ++ news) → w.grownBy w' row → (row = none ∨ ∃ g cs, row = some g ∧ F g ∧ w.heap[g]? = some (.cells cs e (0, 0))) →
      wpList P ops Q rest (a.put o.dst v') w') : wpList P ops Q (o :: rest) a w :=
  wpList_plain hgd fun _ hK => by
    obtain ⟨v', w', row, hrun, h2, h3, h4⟩ := run_append_vec (P := P) t o.type bytes z T hv ad m d news hl hnews h1 hm hbytes
    unfold Oper.wp execOp
    simp only [ho, resolve, invoke, builtin, Sem.run_bind, Sem.run_pure, Result.andThen_ok, List.map_toArray, List.map_cons, List.map_nil, hs, hx, hrun]
    exact hK _ _ (h v' w' row h2 h3 h4)
end
/-- Rows of so many cells each, one behind the other. -/
theorem flat_get {size : Nat} : ∀ (rows : List (List Value)), (∀ r ∈ rows, r.length = size) → ∀ (k j : Nat) (r : List Value), rows[k]? = some r → j < size → rows.flatten[k * size + j]? = r[j]?
  | [], _, k, j, r, h, _ => by simp at h
  | r0 :: rows, hl, 0, j, r, h, hj => by
    simp at h
    subst h
    have := hl r0 (by simp)
    rw [List.flatten_cons, Nat.zero_mul, Nat.zero_add, List.getElem?_append_left (by omega)]
  | r0 :: rows, hl, k + 1, j, r, h, hj => by
    simp at h
    have h0 := hl r0 (by simp)
    rw [List.flatten_cons, List.getElem?_append_right (by rw [h0, Nat.add_mul]; omega), h0, show (k + 1) * size + j - size = k * size + j by rw [Nat.add_mul]; omega]
    exact flat_get rows (fun r hr => hl r (by simp [hr])) k j r h hj
theorem flat_len {size : Nat} : ∀ (rows : List (List Value)), (∀ r ∈ rows, r.length = size) → rows.flatten.length = rows.length * size
  | [], _ => by simp
  | r0 :: rows, hl => by
    rw [List.flatten_cons, List.length_append, flat_len rows (fun r hr => hl r (by simp [hr])), hl r0 (by simp), List.length_cons, Nat.add_mul]
    omega
theorem flat_set {size : Nat} : ∀ (rows : List (List Value)), (∀ r ∈ rows, r.length = size) → ∀ (k j : Nat) (r : List Value) (u : Value), rows[k]? = some r → j < size → rows.flatten.set (k * size + j) u = (rows.set k (r.set j u)).flatten
  | [], _, k, j, r, u, h, _ => by simp at h
  | r0 :: rows, hl, 0, j, r, u, h, hj => by
    simp at h
    subst h
    have := hl r0 (by simp)
    rw [List.flatten_cons, Nat.zero_mul, Nat.zero_add, List.set_append_left _ _ (by omega), List.set_cons_zero, List.flatten_cons]
  | r0 :: rows, hl, k + 1, j, r, u, h, hj => by
    simp at h
    have h0 := hl r0 (by simp)
    rw [List.flatten_cons, List.set_append_right _ _ (by rw [h0, Nat.add_mul]; omega), h0, show (k + 1) * size + j - size = k * size + j by rw [Nat.add_mul]; omega,
      flat_set rows (fun r hr => hl r (by simp [hr])) k j r u h hj, List.set_cons_succ, List.flatten_cons]
end Go.Proofs.Ytomncfiklkhfjaa.Mem
