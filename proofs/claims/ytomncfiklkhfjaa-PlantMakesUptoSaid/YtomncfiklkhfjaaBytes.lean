/- Slices of bytes that the call itself makes: append, make, a store, a cut, in terms of lists of bytes. Over any program. No program's function is walked here. -/
import Derived.Test.YtomncfiklkhfjaaMem
import Derived.Maps.AppendAt
import Derived.Laws.CopyRow
namespace Go.Proofs.Ytomncfiklkhfjaa.Mem
open Go.RowKit
/-- What a program's tables say of a slice of bytes. -/
structure ByteTy (P : Program) (t e : TypeId) : Prop where
  ht : P.underlying t = some (.slice e)
  he : P.underlying e = some (.int .u8)
  hi : (P.info? e).map (fun i => (i.zero, i.size, i.bytes)) = some (some (.int .u8 0), 1, 1)
theorem ByteTy.info {P : Program} {t e : TypeId} (T : ByteTy P t e) : ∃ i, P.info? e = some i ∧ i.zero = some (.int .u8 0) ∧ i.size = 1 ∧ i.bytes = 1 := info_parts T.hi
/-- The slice A of n cells is the call's own and has these bytes. -/
def Own (w : World) (base : Nat) (e : TypeId) (A : Option Addr) (n c : Nat) (bs : List UInt8) : Prop := w.ownsRow base e 1 (.slice A n c) n (bs.map B8)
section
variable {w w' : World} {base : Nat} {e : TypeId} {A : Option Addr} {n c n' : Nat} {bs : List UInt8}
theorem Own.len (h : Own w base e A n c bs) : bs.length = n := by have := h.1; simpa using this
theorem Own.cap_le (h : Own w base e A n c bs) : n ≤ c ∧ c ≤ maxLen := by
  rcases h.2 with ⟨h, rfl⟩ | ⟨g, cap, cur, h, _, _, hn, hm, _⟩
  · injection h with _ _ h3; subst h3; exact ⟨Nat.le_refl _, by unfold maxLen; omega⟩
  · injection h with _ _ h3; subst h3; exact ⟨hn, hm⟩
theorem Own.form (h : Own w base e A n c bs) : (A = none ∧ n = 0 ∧ c = 0) ∨ ∃ g, A = some ⟨g, 0, none⟩ ∧ base ≤ g ∧ g < w.heap.size := by
  rcases h.2 with ⟨h, rfl⟩ | ⟨g, cap, cur, h, hb, hh, hn, hm, _⟩
  · injection h with h1 _ h3; exact .inl ⟨h1, rfl, h3⟩
  · injection h with h1 _ h3
    refine .inr ⟨g, h1, hb, ?_⟩
    rcases Nat.lt_or_ge g w.heap.size with h' | h'
    · exact h'
    · rw [Array.getElem?_eq_none h'] at hh; cases hh
theorem Own.block (h : Own w base e A n c bs) : (Value.slice A n c).ownBlock = A.map (·.block) := by cases A <;> rfl
theorem Own.bat (h : Own w base e A n c bs) : BAt w A bs := fun h0 => by
  rcases h.form with ⟨rfl, hn, _⟩ | ⟨g, rfl, _, _⟩
  · have := h.len; omega
  · refine ⟨_, rfl, fun k hk => ?_⟩
    have := h.cells (g := g) rfl k (B8 bs[k]) (by simp [hk])
    rw [this]
    simp [B8, List.getD, hk]
theorem Own.kept {row : Option Nat} (h : Own w base e A n c bs) (hg : w.grownBy w' row) (hne : A = none ∨ A.map (·.block) ≠ row) : Own w' base e A n c bs :=
  World.ownsRow.kept h hg (by rcases hne with rfl | hne; exact .inl rfl; exact .inr (by rw [h.block]; exact hne))
theorem Own.below (h : Own w base e A n c bs) (hb : Below w.heap.size w w') : Own w' base e A n c bs := by
  refine ⟨h.1, ?_⟩
  rcases h.2 with h1 | ⟨g, cap, cur, h1, h2, hh, h3⟩
  · exact .inl h1
  · refine .inr ⟨g, cap, cur, h1, h2, ?_, h3⟩
    rw [hb.block g, hh]
    rcases Nat.lt_or_ge g w.heap.size with h' | h'
    · exact h'
    · rw [Array.getElem?_eq_none h'] at hh; cases hh
theorem Own.alloc (h : Own w base e A n c bs) (o : Obj) : Own (w.alloc o) base e A n c bs := World.ownsRow.alloc h o
theorem Own.drew (h : Own w base e A n c bs) : Own w.drew base e A n c bs := h
theorem Own.mono {base' : Nat} (h : Own w base e A n c bs) (hb : base' ≤ base) : Own w base' e A n c bs := by
  refine ⟨h.1, ?_⟩
  rcases h.2 with h1 | ⟨g, cap, cur, h1, h2, h3⟩
  · exact .inl h1
  · exact .inr ⟨g, cap, cur, h1, by omega, h3⟩
theorem Own.nil_ (w : World) (base : Nat) (e : TypeId) : Own w base e none 0 0 [] := World.ownsRow_nil w base e 1
/-- A row just laid: '[]byte{..}'. -/
theorem Own.new (w : World) (k : Nat) (cs : Array Value) (hw : w.heap.size = k) (hb : base ≤ k) (hbs : cs = (bs.map B8).toArray) (hn : bs.length = n) (hm : n ≤ maxLen) :
    Own (w.alloc (.cells cs e)) base e (some ⟨k, 0, none⟩) n n bs := by
  subst hw hbs hn
  refine ⟨by simp, .inr ⟨_, bs.length, _, rfl, hb, heap_alloc_new w _, Nat.le_refl _, hm, by simp, by simpa using List.take_of_length_le (by simp)⟩⟩
theorem Own.at_ (h : Own w base e (some ⟨n', 0, none⟩) n c bs) {k : Nat} (hk : k < n) : w.cell? ⟨n', k, none⟩ = some (.int .u8 (V8 (bs.getD k 0))) := by
  have hl := h.len
  obtain ⟨ad, e, hc⟩ := h.bat (by omega)
  injection e with e; subst e
  have := hc k (by omega)
  rw [add_off] at this
  simpa using this
theorem Own.free (h : Own w base e (some ⟨n', 0, none⟩) n c bs) (k : Nat) : w.frozen? ⟨n', k, none⟩ = false := World.ownsRow.frozenAt h k
theorem Own.setByte (h : Own w base e (some ⟨n', 0, none⟩) n c bs) (k : Nat) (b : UInt8) : Own (w.setCell ⟨n', k, none⟩ (.int .u8 (V8 b))) base e (some ⟨n', 0, none⟩) n c (bs.set k b) := by
  have := World.ownsRow.stored h k (.int .u8 (V8 b))
  unfold Own
  rw [List.map_set]
  exact this.1
theorem Own.of_blk {g k : Nat} (h : Blk w g e (cellsOf bs)) (hb : base ≤ g) (hn : bs.length = k) (hm : k ≤ maxLen) : Own w base e (some ⟨g, 0, none⟩) k k bs := by
  subst hn
  exact ⟨by simp, .inr ⟨g, bs.length, _, rfl, hb, h, Nat.le_refl _, hm, by simp [cellsOf], by simpa [cellsOf] using List.take_of_length_le (by simp)⟩⟩
theorem Own.row_ge (h : Own w base e A n c bs) : ∀ k, (Value.slice A n c).ownBlock = some k → base ≤ k := by
  intro k hk
  rcases h.form with ⟨rfl, _, _⟩ | ⟨g, rfl, hg, _⟩
  · cases hk
  · injection hk with hk; subst hk; exact hg
theorem Own.row_lt (h : Own w base e A n c bs) : ∀ k, (Value.slice A n c).ownBlock = some k → k < w.heap.size := by
  intro k hk
  rcases h.form with ⟨rfl, _, _⟩ | ⟨g, rfl, _, hg⟩
  · cases hk
  · injection hk with hk; subst hk; exact hg
/-- Two owned slices, the one there before the other was made. -/
theorem Own.apart {w2 : World} {b2 n2 c2 : Nat} {A2 : Option Addr} {bs2 : List UInt8} (h1 : Own w base e A n c bs) (h2 : Own w2 b2 e A2 n2 c2 bs2) (hle : w.heap.size ≤ b2) :
    A = none ∨ A.map (·.block) ≠ (Value.slice A2 n2 c2).ownBlock := by
  rcases h1.form with ⟨h, _, _⟩ | ⟨g, rfl, _, hg⟩
  · exact .inl h
  · right
    intro he
    have := h2.row_ge g (by rw [← he]; rfl)
    omega
theorem Own.apart' {w2 : World} {b2 n2 c2 : Nat} {A2 : Option Addr} {bs2 : List UInt8} (h1 : Own w base e A n c bs) (h2 : Own w2 b2 e A2 n2 c2 bs2) (hle : w.heap.size ≤ b2) :
    A2 = none ∨ A2.map (·.block) ≠ (Value.slice A n c).ownBlock := by
  rcases h2.form with ⟨h, _, _⟩ | ⟨g, rfl, hg, _⟩
  · exact .inl h
  · right
    intro he
    have := h1.row_lt g (by rw [← he]; rfl)
    omega
theorem World_grown_below {w w' : World} {row : Option Nat} (hg : w.grownBy w' row) (hb : base ≤ w.heap.size) (hr : ∀ k, row = some k → base ≤ k) : Below base w w' := (Below.refl _ _).grown hg hb hr
end
section
variable {P : Program} {w : World}
theorem run_append_bytes (base : Nat) (t ty e : TypeId) (T : ByteTy P t e) (A : Option Addr) (n c : Nat) (xs : List UInt8) (hown : Own w base e A n c xs)
    (B : Option Addr) (m d : Nat) (bs : List UInt8) (hb : BAt w B bs) (hm : bs.length = m) (N : Nat) (hN : n + m = N) (hbytes : N ≤ 140737488355328) (hbase : base ≤ w.heap.size) :
    ∃ A' c' w', (Builtin.append_ #[t, t] ty #[.slice A n c, .slice B m d]).run P w = .ok (.slice A' N c') w' ∧ Own w' base e A' N c' (xs ++ bs) ∧ w.grownBy w' (Value.slice A n c).ownBlock ∧
      (A' = A ∨ A' = some ⟨w.heap.size, 0, none⟩) := by
  subst hN
  obtain ⟨i, hi, hz, hs, hby⟩ := T.info
  rcases B with _ | ad
  · have hm0 : m = 0 := by
      rcases Nat.eq_zero_or_pos m with h0 | h0
      · exact h0
      · obtain ⟨ad, h, _⟩ := hb (by omega)
        cases h
    subst hm0
    have hbs : bs = [] := List.eq_nil_of_length_eq_zero hm
    subst hbs
    refine ⟨A, c, w, ?_, by simpa using hown, World.grownBy.refl w _, .inl rfl⟩
    rcases hown.2 with ⟨h, rfl⟩ | ⟨g, cap, cur, h, _, _, hnc, _⟩
    · injection h with h1 _ h3
      subst h1 h3
      simp [Builtin.append_, run_underlying T.ht, sizeOf, typeInfo, hi, Builtin.lenOf, Builtin.firstCells]
    · injection h with h1 _ h3
      subst h1 h3
      simp [Builtin.append_, run_underlying T.ht, sizeOf, typeInfo, hi, Builtin.lenOf, Builtin.firstCells, hnc, storeCells]
  · have hcells : ∀ j u, (bs.map B8)[j]? = some u → w.cell? (ad.add j) = some u := by
      intro j u hu
      have hj : j < bs.length := by
        have := (List.getElem?_eq_some_iff.1 hu).1; simpa using this
      obtain ⟨ad', h, hc⟩ := hb (by omega)
      injection h with h; subst h
      rw [hc j hj]
      simp [hj, B8] at hu ⊢
      simpa [hj] using hu
    obtain ⟨v', w', hrun, h2, h3, _, h5⟩ := run_append_own_at (P := P) w base t ty e i (.int .u8 0) 1 1 T.ht hi hz hs hby rfl (by omega) (.slice A n c) n (xs.map B8) hown ad m d (bs.map B8) (by simpa using hm) hcells
      (by intro u hu; obtain ⟨b, _, rfl⟩ := List.mem_map.1 hu; rfl) (by unfold maxLen; omega) (by omega) hbase
    have hf := h2.2
    have hA : ∃ A' c', v' = .slice A' (n + m) c' := by
      rcases hf with ⟨h, h0⟩ | ⟨g, cap, cur, h, _⟩
      · exact ⟨none, 0, by rw [h, h0]⟩
      · exact ⟨_, _, h⟩
    obtain ⟨A', c', rfl⟩ := hA
    have hO : Own w' base e A' (n + m) c' (xs ++ bs) := by unfold Own; rw [List.map_append]; exact h2
    refine ⟨A', c', w', hrun, hO, h3, ?_⟩
    rcases h5 with h5 | h5
    · left
      rcases hO.form with ⟨rfl, _, _⟩ | ⟨g, rfl, _, _⟩ <;> rcases hown.form with ⟨rfl, _, _⟩ | ⟨g', rfl, _, _⟩ <;> simp [Value.ownBlock] at h5 ⊢
      exact h5
    · right
      rcases hO.form with ⟨rfl, _, _⟩ | ⟨g, rfl, _, _⟩ <;> simp [Value.ownBlock] at h5 ⊢
      exact h5
theorem wp_append_bytes {o : Oper} {a : Act} {K : Act → World → Prop} {Q : Exit → Act → World → Prop} (s x : Operand) (t : TypeId)
    (ho : o.op = .call { callee := .builtin .append, args := #[s, x], argTypes := #[t, t] }) (base : Nat) (e : TypeId) (T : ByteTy P t e)
    (A : Option Addr) (n c : Nat) (xs : List UInt8) (hs : a.eval s = .slice A n c) (hown : Own w base e A n c xs)
    (B : Option Addr) (m d : Nat) (bs : List UInt8) (hx : a.eval x = .slice B m d) (hb : BAt w B bs) (hm : bs.length = m) (N : Nat) (hN : n + m = N) (hbytes : N ≤ 140737488355328) (hbase : base ≤ w.heap.size)
    (h : ∀ A' c' w', Own w' base e A' N c' (xs ++ bs) → w.grownBy w' (Value.slice A n c).ownBlock → Below base w w' → (A' = A ∨ A' = some ⟨w.heap.size, 0, none⟩) → K (a.put o.dst (.slice A' N c')) w') : o.wp P a w K Q := by
  obtain ⟨A', c', w', hrun, h2, h3, h4⟩ := run_append_bytes (P := P) base t o.type e T A n c xs hown B m d bs hb hm N hN hbytes hbase
  unfold Oper.wp execOp
  simp only [ho, resolve, invoke, builtin, Sem.run_bind, Sem.run_pure, Result.andThen_ok, List.map_toArray, List.map_cons, List.map_nil, hs, hx, hrun]
  exact h A' c' w' h2 h3 (World_grown_below h3 hbase hown.row_ge) h4
theorem wpList_append_bytes {ops : Array Oper} {rest : List Oper} {o : Oper} {a : Act} {Q : Exit → Act → World → Prop} (hgd : o.guard = none) (s x : Operand) (t : TypeId)
    (ho : o.op = .call { callee := .builtin .append, args := #[s, x], argTypes := #[t, t] }) (base : Nat) (e : TypeId) (T : ByteTy P t e)
    (A : Option Addr) (n c : Nat) (xs : List UInt8) (hs : a.eval s = .slice A n c) (hown : Own w base e A n c xs)
    (B : Option Addr) (m d : Nat) (bs : List UInt8) (hx : a.eval x = .slice B m d) (hb : BAt w B bs) (hm : bs.length = m) (N : Nat) (hN : n + m = N) (hbytes : N ≤ 140737488355328) (hbase : base ≤ w.heap.size)
    (h : ∀ A' c' w', Own w' base e A' N c' (xs ++ bs) → w.grownBy w' (Value.slice A n c).ownBlock → Below base w w' → (A' = A ∨ A' = some ⟨w.heap.size, 0, none⟩) → wpList P ops Q rest (a.put o.dst (.slice A' N c')) w') : wpList P ops Q (o :: rest) a w :=
  wpList_plain hgd fun _ hK => wp_append_bytes s x t ho base e T A n c xs hs hown B m d bs hx hb hm N hN hbytes hbase fun A' c' w' h2 h3 h4 h5 => hK _ _ (h A' c' w' h2 h3 h4 h5)
/-- .. behind a guard that says yes. -/
theorem wpList_append_bytes_g {ops : Array Oper} {rest : List Oper} {o : Oper} {a : Act} {Q : Exit → Act → World → Prop} (hgd : Region.wanted o (yielded ops a.tmps) = true) (s x : Operand) (t : TypeId)
    (ho : o.op = .call { callee := .builtin .append, args := #[s, x], argTypes := #[t, t] }) (base : Nat) (e : TypeId) (T : ByteTy P t e)
    (A : Option Addr) (n c : Nat) (xs : List UInt8) (hs : a.eval s = .slice A n c) (hown : Own w base e A n c xs)
    (B : Option Addr) (m d : Nat) (bs : List UInt8) (hx : a.eval x = .slice B m d) (hb : BAt w B bs) (hm : bs.length = m) (N : Nat) (hN : n + m = N) (hbytes : N ≤ 140737488355328) (hbase : base ≤ w.heap.size)
    (h : ∀ A' c' w', Own w' base e A' N c' (xs ++ bs) → w.grownBy w' (Value.slice A n c).ownBlock → Below base w w' → (A' = A ∨ A' = some ⟨w.heap.size, 0, none⟩) → wpList P ops Q rest (a.put o.dst (.slice A' N c')) w') : wpList P ops Q (o :: rest) a w :=
  BigFrame.wpList_want hgd fun _ hK => wp_append_bytes s x t ho base e T A n c xs hs hown B m d bs hx hb hm N hN hbytes hbase fun A' c' w' h2 h3 h4 h5 => hK _ _ (h A' c' w' h2 h3 h4 h5)
theorem wpList_make_bytes {ops : Array Oper} {rest : List Oper} {o : Oper} {a : Act} {Q : Exit → Act → World → Prop} (hgd : o.guard = none) (l c : Operand) (t e : TypeId)
    (ho : o.op = Op.makeSlice t l c) (T : ByteTy P t e) (kl kc : IntKind) (n : Nat) (hl : a.eval l = .int kl (n : Int)) (hc : a.eval c = .int kc (n : Int)) (hn : n ≤ 281474976710656)
    (h : ∀ w', Blk w' w.heap.size e (cellsOf (List.replicate n 0)) → Below w.heap.size w w' → w.heap.size < w'.heap.size → wpList P ops Q rest (a.put o.dst (.slice (some ⟨w.heap.size, 0, none⟩) n n)) w') : wpList P ops Q (o :: rest) a w := by
  obtain ⟨i, hi, hz, hs, hby⟩ := T.info
  refine wpList_plain hgd fun K hK => ?_
  have hb : (i.bytes : Int) * (n : Int) ≤ 281474976710656 := by rw [hby]; omega
  have hr := run_make (P := P) w t e i _ T.ht hi hz kl kc n n (by omega) (Int.le_refl _) hb (by omega)
  simp only [Int.toNat_natCast, hs] at hr
  unfold Oper.wp execOp
  simp only [ho, hl, hc, Sem.run_bind, Sem.run_pure, Result.andThen_ok, hr]
  refine hK _ _ (h _ ?_ ((Below.refl _ _).alloc (Nat.le_refl _) _) (by simp))
  have hcells : madeCells (Value.int .u8 0).cells (n * 1) = cellsOf (List.replicate n 0) := by
    apply Array.ext'
    rw [show (Value.int .u8 0).cells = #[Value.int .u8 0] from rfl, toList_madeCells_one, Nat.mul_one]
    simp [cellsOf, B8, V8]
  rw [hcells]
  exact Blk.new _ _ _
/-- 'row[l:]' of an array of N bytes in memory. -/
theorem run_cutArray (t e : TypeId) (N : Nat) (ht : P.underlying t = some (.array N e)) (he : (P.info? e).map (fun i => (i.zero, i.size, i.bytes)) = some (some (.int .u8 0), 1, 1)) (g o : Nat) (kl : IntKind) (L : Int) (l : Nat) (hL : L = (l : Int)) (hl : l < N) (W : World) :
    (Instr.sliceAt t (.pointer (some ⟨g, o, none⟩)) (some (.int kl L)) none none).run P W = .ok (.slice (some ⟨g, o + l, none⟩) (N - l) (N - l)) W := by
  subst hL
  obtain ⟨i, hi, hz, hs, hby⟩ := info_parts he
  simp [Instr.sliceAt, Instr.sureAddr, run_underlying ht, Instr.sliceBounds, run_sliceBound W kl (l : Int) N .sliceB (by omega) (by omega), sizeOf, typeInfo, hi, hs, add_off, Nat.ne_of_gt hl]
/-- Where a cut of a slice begins. -/
def cutA (A : Option Addr) (m l : Nat) : Option Addr := if m = l then A else A.map (·.add l)
theorem add_zero_map (A : Option Addr) : A.map (·.add 0) = A := by cases A <;> simp [Addr.add]
theorem cutA_zero (A : Option Addr) (m : Nat) : cutA A m 0 = A := by
  unfold cutA
  split
  · rfl
  · exact add_zero_map A
theorem BAt.cut {A : Option Addr} {bs : List UInt8} (h : BAt w A bs) (m l : Nat) (hl : bs.length ≤ m) : BAt w (cutA A m l) (bs.drop l) := by
  unfold cutA
  split
  · have hz : bs.drop l = [] := List.drop_eq_nil_of_le (by omega)
    rw [hz]
    exact BAt.nil_ _ _
  · cases A with
    | none =>
      intro h0
      simp at h0
      obtain ⟨ad, e, _⟩ := h (by omega)
      cases e
    | some a => exact h.drop l
theorem run_cut_l (t e : TypeId) (T : ByteTy P t e) (A : Option Addr) (n cap : Nat) (kl : IntKind) (L : Int) (l : Nat) (hL : L = (l : Int)) (hl : l ≤ n) (W : World) :
    (Instr.sliceAt t (.slice A n cap) (some (.int kl L)) none none).run P W = .ok (.slice (cutA A cap l) (n - l) (cap - l)) W := by
  subst hL
  obtain ⟨i, hi, hz, hs, hby⟩ := T.info
  simp [Instr.sliceAt, Instr.slice, run_underlying T.ht, Instr.sliceBounds, run_sliceBound W kl (l : Int) n .sliceB (by omega) (by omega), sizeOf, typeInfo, hi, hs, cutA]
theorem run_cut_h (t e : TypeId) (T : ByteTy P t e) (A : Option Addr) (n cap : Nat) (kh : IntKind) (H : Int) (h : Nat) (hH : H = (h : Int)) (hh : h ≤ cap) (W : World) :
    (Instr.sliceAt t (.slice A n cap) none (some (.int kh H)) none).run P W = .ok (.slice A h cap) W := by
  subst hH
  obtain ⟨i, hi, hz, hs, hby⟩ := T.info
  have hA : ¬ cap = 0 → A.map (fun x => x.add 0) = A := fun _ => add_zero_map A
  simp [Instr.sliceAt, Instr.slice, run_underlying T.ht, Instr.sliceBounds, run_sliceBound W kh (h : Int) cap .sliceAcap (by omega) (by omega), sizeOf, typeInfo, hi, hs]
  exact hA
theorem run_cut_lh (t e : TypeId) (T : ByteTy P t e) (A : Option Addr) (n cap : Nat) (kl kh : IntKind) (L H : Int) (l h : Nat) (hL : L = (l : Int)) (hH : H = (h : Int)) (hl : l ≤ h) (hh : h ≤ cap) (W : World) :
    (Instr.sliceAt t (.slice A n cap) (some (.int kl L)) (some (.int kh H)) none).run P W = .ok (.slice (cutA A cap l) (h - l) (cap - l)) W := by
  subst hL hH
  obtain ⟨i, hi, hz, hs, hby⟩ := T.info
  simp [Instr.sliceAt, Instr.slice, run_underlying T.ht, Instr.sliceBounds, run_sliceBound W kh (h : Int) cap .sliceAcap (by omega) (by omega), run_sliceBound W kl (l : Int) h .sliceB (by omega) (by omega), sizeOf, typeInfo, hi, hs, cutA]
theorem run_cut_lhm (t e : TypeId) (T : ByteTy P t e) (A : Option Addr) (n cap : Nat) (kl kh km : IntKind) (L H M : Int) (l h m : Nat) (hL : L = (l : Int)) (hH : H = (h : Int)) (hM : M = (m : Int)) (hl : l ≤ h) (hh : h ≤ m) (hm : m ≤ cap) (W : World) :
    (Instr.sliceAt t (.slice A n cap) (some (.int kl L)) (some (.int kh H)) (some (.int km M))).run P W = .ok (.slice (cutA A m l) (h - l) (m - l)) W := by
  subst hL hH hM
  obtain ⟨i, hi, hz, hs, hby⟩ := T.info
  simp [Instr.sliceAt, Instr.slice, run_underlying T.ht, Instr.sliceBounds, run_sliceBound W km (m : Int) cap .slice3Acap (by omega) (by omega), run_sliceBound W kh (h : Int) m .slice3B (by omega) (by omega), run_sliceBound W kl (l : Int) h .slice3C (by omega) (by omega), sizeOf, typeInfo, hi, hs, cutA]
theorem run_cut_hm (t e : TypeId) (T : ByteTy P t e) (A : Option Addr) (n cap : Nat) (kh km : IntKind) (H M : Int) (h m : Nat) (hH : H = (h : Int)) (hM : M = (m : Int)) (hh : h ≤ m) (hm : m ≤ cap) (W : World) :
    (Instr.sliceAt t (.slice A n cap) none (some (.int kh H)) (some (.int km M))).run P W = .ok (.slice A h m) W := by
  subst hH hM
  obtain ⟨i, hi, hz, hs, hby⟩ := T.info
  have hA : ¬ m = 0 → A.map (fun x => x.add 0) = A := fun _ => add_zero_map A
  simp [Instr.sliceAt, Instr.slice, run_underlying T.ht, Instr.sliceBounds, run_sliceBound W km (m : Int) cap .slice3Acap (by omega) (by omega), run_sliceBound W kh (h : Int) m .slice3B (by omega) (by omega), sizeOf, typeInfo, hi, hs]
  exact hA
/-- 'copy' of bytes into a block that is known whole. -/
theorem run_copy_bytes (t e ty : TypeId) (T : ByteTy P t e) (g o dl dc te : Nat) (old : List UInt8) (hg : Blk w g te (cellsOf old)) (B : Option Addr) (m d : Nat) (bs : List UInt8) (hb : BAt w B bs) (hm : bs.length = m) (k : Nat) (hk : k = Nat.min m dl) (hfit : o + k ≤ old.length) (hnil : B = none → d = 0) :
    ∃ w', (Builtin.copy_ #[t, t] ty #[.slice (some ⟨g, o, none⟩) dl dc, .slice B m d]).run P w = .ok (.int .i64 (k : Int)) w' ∧ Blk w' g te (cellsOf (old.take o ++ bs.take k ++ old.drop (o + k))) ∧ w.grownBy w' (some g) ∧ w'.heap.size = w.heap.size := by
  obtain ⟨i, hi, hz, hs, hby⟩ := T.info
  rcases B with _ | ad
  · have hm0 : m = 0 := by
      rcases Nat.eq_zero_or_pos m with h0 | h0
      · exact h0
      · obtain ⟨ad, h, _⟩ := hb (by omega)
        cases h
    subst hm0
    have hd0 := hnil rfl
    subst hd0
    have hk0 : k = 0 := by rw [hk]; exact Nat.zero_min _
    refine ⟨w, ?_, by simpa [hk0] using hg, World.grownBy.refl w _, rfl⟩
    rw [run_copy_nil P w t t ty e _ dl dc T.ht (by simp [hi]), hk0]
    rfl
  · have hkm : k ≤ m := by rw [hk]; exact Nat.min_le_left _ _
    have hrun := run_copy_row P w t t ty e g o dl dc ad m d (cellsOf old) te ((bs.take k).map B8) T.ht (by simp [hi, hs]) hg (by simp; rw [hk]; omega) (by
      intro j v hv
      have hj : j < k := by
        have := (List.getElem?_eq_some_iff.1 hv).1
        simp at this; omega
      obtain ⟨ad', h, hc⟩ := hb (by omega)
      injection h with h; subst h
      rw [hc j (by omega)]
      have hjb : j < bs.length := by omega
      simp [hj, B8, List.getElem?_take, hjb] at hv ⊢
      exact hv) (by simp [cellsOf]; omega) (by intro v hv; obtain ⟨b, _, rfl⟩ := List.mem_map.1 hv; rfl)
    have hlen : ((bs.take k).map B8).length = k := by simp; omega
    rw [hlen] at hrun
    have hcells : ((cellsOf old).toList.take o ++ (bs.take k).map B8 ++ (cellsOf old).toList.drop (o + k)).toArray = cellsOf (old.take o ++ bs.take k ++ old.drop (o + k)) := by simp [cellsOf]
    rw [hcells] at hrun
    refine ⟨_, hrun, ?_, ?_, by simp [World.setRow]⟩
    · unfold Blk at hg ⊢
      simp [World.setRow, Array.getElem?_modify, hg]
    · refine ⟨rfl, rfl, rfl, by simp [World.setRow], fun j hj hne => ?_⟩
      have : g ≠ j := fun e => hne (by rw [e])
      simp [World.setRow, Array.getElem?_modify, this]
theorem wpList_copy_bytes {ops : Array Oper} {rest : List Oper} {o : Oper} {a : Act} {Q : Exit → Act → World → Prop} (hgd : o.guard = none) (s x : Operand) (t : TypeId)
    (ho : o.op = .call { callee := .builtin .copy, args := #[s, x], argTypes := #[t, t] }) (e : TypeId) (T : ByteTy P t e) (g off dl dc te : Nat) (old : List UInt8) (hs : a.eval s = .slice (some ⟨g, off, none⟩) dl dc)
    (hg : Blk w g te (cellsOf old)) (B : Option Addr) (m d : Nat) (bs : List UInt8) (hx : a.eval x = .slice B m d) (hb : BAt w B bs) (hm : bs.length = m) (k : Nat) (hk : k = Nat.min m dl) (hfit : off + k ≤ old.length) (hnil : B = none → d = 0)
    (h : ∀ w', Blk w' g te (cellsOf (old.take off ++ bs.take k ++ old.drop (off + k))) → w.grownBy w' (some g) → w'.heap.size = w.heap.size → wpList P ops Q rest (a.put o.dst (.int .i64 (k : Int))) w') : wpList P ops Q (o :: rest) a w :=
  wpList_plain hgd fun K hK => by
    obtain ⟨w', hrun, h2, h3, h4⟩ := run_copy_bytes (P := P) (w := w) t e o.type T g off dl dc te old hg B m d bs hb hm k hk hfit hnil
    unfold Oper.wp execOp
    simp only [ho, resolve, invoke, builtin, Sem.run_bind, Sem.run_pure, Result.andThen_ok, List.map_toArray, List.map_cons, List.map_nil, hs, hx, hrun]
    exact hK _ _ (h w' h2 h3 h4)
/-- 'make([]byte, l, c)'. -/
theorem run_makeCap {t e : TypeId} (T : ByteTy P t e) (l c : Nat) (L C : Int) (hL : L = (l : Int)) (hC : C = (c : Int)) (hlc : l ≤ c) (hc : c ≤ 281474976710656) (W : World) :
    (Instr.makeSlice t (.int .i64 L) (.int .i64 C)).run P W = .ok (.slice (some ⟨W.heap.size, 0, none⟩) l c) (W.alloc (.cells (cellsOf (List.replicate c 0)) e)) := by
  subst hL hC
  obtain ⟨i, hi, hz, hs, hby⟩ := T.info
  have hb : (i.bytes : Int) * (c : Int) ≤ 281474976710656 := by rw [hby]; omega
  have hr := run_make (P := P) W t e i _ T.ht hi hz .i64 .i64 l c (by omega) (by omega) hb (by omega)
  simp only [Int.toNat_natCast, hs] at hr
  have hcells : madeCells (Value.int .u8 0).cells (c * 1) = cellsOf (List.replicate c 0) := by
    apply Array.ext'
    rw [show (Value.int .u8 0).cells = #[Value.int .u8 0] from rfl, toList_madeCells_one, Nat.mul_one]
    simp [cellsOf, B8, V8]
  rw [hcells] at hr
  exact hr
/-- 'string(b)'. -/
theorem run_toString {t e ts : TypeId} (T : ByteTy P t e) (hd : P.underlying ts = some .string) {A : Option Addr} {bs : List UInt8} {n : Nat} (cap : Nat) (hb : BAt w A bs) (hn : bs.length = n) :
    (convert t ts (.slice A n cap)).run P w = .ok (.string ⟨bs.toArray⟩) w := by
  subst hn
  rw [run_convert_bytes_string w t ts e A _ cap T.ht T.he hd]
  cases A with
  | none =>
    have hbs : bs = [] := by
      rcases Nat.eq_zero_or_pos bs.length with h0 | h0
      · exact List.eq_nil_of_length_eq_zero h0
      · obtain ⟨ad, h, _⟩ := hb h0
        cases h
    subst hbs
    simp [Conv.bytesToString]
    rfl
  | some a =>
    have hl : (loadCells a bs.length).run P w = .ok ((bs.map V8).map (Value.int .u8)).toArray w := by
      have := run_loadCells_list (P := P) w a (bs.map B8) (by
        intro j v hv
        have hj : j < bs.length := by
          have := (List.getElem?_eq_some_iff.1 hv).1
          simpa using this
        obtain ⟨ad', h, hc⟩ := hb (by omega)
        injection h with h; subst h
        rw [hc j hj]
        simp [hj, B8] at hv ⊢
        exact hv)
      rw [List.length_map] at this
      rw [this, List.map_map]
      rfl
    rw [run_bytesToString w a bs.length cap (bs.map V8) hl, foldl_push_bytes]
    simp [Function.comp_def, V8]
theorem step_copy_bytes {ops : Array Oper} {o : Oper} {a : Act} {K : Act → World → Prop} {Q : Exit → Act → World → Prop} {E : Prop} (hgd : o.guard = none) (s x : Operand) (t : TypeId)
    (ho : o.op = .call { callee := .builtin .copy, args := #[s, x], argTypes := #[t, t] }) (e : TypeId) (T : ByteTy P t e) (g off dl dc te : Nat) (old : List UInt8) (hs : a.eval s = .slice (some ⟨g, off, none⟩) dl dc)
    (hg : Blk w g te (cellsOf old)) (B : Option Addr) (m d : Nat) (bs : List UInt8) (hx : a.eval x = .slice B m d) (hb : BAt w B bs) (hm : bs.length = m) (k : Nat) (hk : k = Nat.min m dl) (hfit : off + k ≤ old.length) (hnil : B = none → d = 0)
    (h : ∀ w', Blk w' g te (cellsOf (old.take off ++ bs.take k ++ old.drop (off + k))) → w.grownBy w' (some g) → w'.heap.size = w.heap.size → K (a.put o.dst (.int .i64 (k : Int))) w') :
    if Region.wanted o (yielded ops a.tmps) = true then Oper.wp P o a w K Q else E := by
  have hw : Region.wanted o (yielded ops a.tmps) = true := by simp [Region.wanted, hgd]
  rw [if_pos hw]
  obtain ⟨w', hrun, h2, h3, h4⟩ := run_copy_bytes (P := P) (w := w) t e o.type T g off dl dc te old hg B m d bs hb hm k hk hfit hnil
  unfold Oper.wp execOp
  simp only [ho, resolve, invoke, builtin, Sem.run_bind, Sem.run_pure, Result.andThen_ok, List.map_toArray, List.map_cons, List.map_nil, hs, hx, hrun]
  exact h w' h2 h3 h4
theorem step_append_bytes {ops : Array Oper} {o : Oper} {a : Act} {K : Act → World → Prop} {Q : Exit → Act → World → Prop} {E : Prop} (hgd : o.guard = none) (s x : Operand) (t : TypeId)
    (ho : o.op = .call { callee := .builtin .append, args := #[s, x], argTypes := #[t, t] }) (base : Nat) (e : TypeId) (T : ByteTy P t e)
    (A : Option Addr) (n c : Nat) (xs : List UInt8) (hs : a.eval s = .slice A n c) (hown : Own w base e A n c xs)
    (B : Option Addr) (m d : Nat) (bs : List UInt8) (hx : a.eval x = .slice B m d) (hb : BAt w B bs) (hm : bs.length = m) (N : Nat) (hN : n + m = N) (hbytes : N ≤ 140737488355328) (hbase : base ≤ w.heap.size)
    (h : ∀ A' c' w', Own w' base e A' N c' (xs ++ bs) → w.grownBy w' (Value.slice A n c).ownBlock → Below base w w' → (A' = A ∨ A' = some ⟨w.heap.size, 0, none⟩) → K (a.put o.dst (.slice A' N c')) w') :
    if Region.wanted o (yielded ops a.tmps) = true then Oper.wp P o a w K Q else E := by
  have hw : Region.wanted o (yielded ops a.tmps) = true := by simp [Region.wanted, hgd]
  rw [if_pos hw]
  exact wp_append_bytes s x t ho base e T A n c xs hs hown B m d bs hx hb hm N hN hbytes hbase h
end
end Go.Proofs.Ytomncfiklkhfjaa.Mem
