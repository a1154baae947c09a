/- A row copied onto an empty one. Over any program. No program's function is walked here. -/
import Derived.Test.YtookhagpgkefpaaDoorFold8
import Derived.Test.YtookhagpgkefpaaDoorPlNew
import Derived.Deep.CutRange
import Derived.Test.YtookhagpgkefpaaDoorFold10
import Derived.Test.YtookhagpgkefpaaDoorFold16
import Derived.BigQuiet
import Derived.Test.YtookhagpgkefpaaDoorPagShown
namespace Go.Proofs.YtookhagpgkefpaaDoor.Mem
open Go Go.RowKit Pl
section
variable {P : Program} {F F' G : Nat → Prop} {w w' w1 : World} {e : TypeId} {size n : Nat} {v : Value} {xs : List Value}
/-- 'append' onto such a slice; where what comes out lies. -/
theorem run_append_vec2 (t ty : TypeId) (bytes : Nat) (z : Value) (T : ElTy P t e size bytes z) (hv : Vec w F e size v n xs)
    (ad : Addr) (m d : Nat) (news : List Value) (hl : news.length = m * size) (hnews : ∀ j u, news[j]? = some u → w.cell? (ad.add j) = some u) (h1 : ∀ u ∈ news, u.oneCell' = true)
    (hm : n + m ≤ maxLen) (hbytes : (n + m) * bytes ≤ 140737488355328) (hm0 : 0 < m) :
    ∃ v' w' row, (Builtin.append_ #[t, t] ty #[v, .slice (some ad) m d]).run P w = .ok v' w' ∧ Vec w' (Grow F w w') e size v' (n + m) (xs ++ news) ∧ w.grownBy w' row ∧
      (row = none ∨ ∃ g cs, row = some g ∧ F g ∧ w.heap[g]? = some (.cells cs e (0, 0)) ∧ v.ownBlock = some g) ∧ (v'.ownBlock = v.ownBlock ∨ v'.ownBlock = some w.heap.size) := by
  obtain ⟨i, hi, hz, hs, hby⟩ := T.info
  obtain ⟨A, cap, rfl, hlen, ⟨rfl, rfl⟩ | ⟨g, cur, rfl, hf, hh, hnc, hcm, hcs, htk⟩⟩ := hv
  · have hx : xs = [] := List.eq_nil_of_length_eq_zero (by simpa using hlen)
    subst hx
    rcases A with _ | ⟨ad0⟩
    · obtain ⟨v', w', hrun, h2, h3, _, h5⟩ := run_append_own_at (P := P) w w.heap.size t ty e i z size bytes T.ht hi hz hs hby T.hz T.h0 (.slice none 0 0) 0 [] (World.ownsRow_nil w _ e size) ad m d news hl hnews h1 (by omega) (by simpa using hbytes) (Nat.le_refl _)
      have hA : ∃ A' c', v' = .slice A' (0 + m) c' := by
        rcases h2.2 with ⟨h, h0⟩ | ⟨g, cap, cur, h, _⟩
        · exact ⟨none, 0, by rw [h, h0]⟩
        · exact ⟨_, _, h⟩
      obtain ⟨A', c', rfl⟩ := hA
      exact ⟨_, w', none, hrun, Vec.of_own h2 (fun g hg hg' => .inr ⟨hg, hg'⟩), h3, .inl rfl, h5⟩
    · subst hs hby
      have hr := run_append_grow (P := P) w t ty e i z T.ht hi hz ad0 0 0 [] (by simp) (by simp) ad m d news hl hnews (by omega) (by unfold maxLen at hm; omega) (growslice_fits (by omega) (by simpa using hbytes))
      refine ⟨_, _, none, hr, ?_, ⟨rfl, rfl, rfl, by simp, fun k hk _ => Below.heap_alloc w.drew _ k hk⟩, .inl rfl, .inr rfl⟩
      have hge := grownCap_ge w (0 + m) 0 e
      have hcm : grownCap w (0 + m) 0 e ≤ maxLen := grownCap_le_maxLen w (0 + m) 0 e hm
      refine ⟨_, _, rfl, by simpa using hl, .inr ⟨w.heap.size, _, rfl, .inr ⟨Nat.le_refl _, by simp⟩, heap_alloc_new w.drew _, hge, hcm, ?_, ?_⟩⟩
      · simp only [Array.size_append, List.size_toArray, size_zeroCells, T.hz, hl, List.length_nil, Nat.zero_add, ← Nat.add_mul]
        congr 1
        simp only [Nat.zero_add] at hge ⊢
        omega
      · simp only [Array.toList_append, List.nil_append, Nat.zero_add]
        rw [← hl]
        exact List.take_left
  · obtain ⟨v', w', hrun, h2, h3, _, h5⟩ := run_append_own_at (P := P) w (min g w.heap.size) t ty e i z size bytes T.ht hi hz hs hby T.hz T.h0 (.slice (some ⟨g, 0, none⟩) n cap) n xs
      ⟨hlen, .inr ⟨g, cap, cur, rfl, Nat.min_le_left _ _, hh, hnc, hcm, hcs, htk⟩⟩ ad m d news hl hnews h1 hm hbytes (Nat.min_le_right _ _)
    refine ⟨v', w', some g, hrun, ?_, h3, .inr ⟨g, cur, rfl, hf, hh, rfl⟩, h5⟩
    rcases h2.2 with ⟨h, h0⟩ | ⟨g', cap', cur', h, _, hh', hr⟩
    · subst h
      exact ⟨none, 0, by rw [h0], h2.1, .inl ⟨h0, rfl⟩⟩
    · subst h
      refine ⟨_, _, rfl, h2.1, .inr ⟨g', cur', rfl, ?_, hh', hr⟩⟩
      have hlt := (Array.getElem?_eq_some_iff.1 hh').1
      rcases h5 with h5 | h5
      · simp [Value.ownBlock] at h5
        subst h5
        exact .inl hf
      · simp [Value.ownBlock] at h5
        subst h5
        exact .inr ⟨Nat.le_refl _, hlt⟩
end
/-- A row copied onto an empty one. -/
theorem wpList_copy_vec {P : Program} {w : World} {F : Nat → Prop} {e : TypeId} {size n : Nat} {xs : List Value} {ops : Array Oper} {rest : List Oper} {o : Oper} {a : Act} {Q : Exit → Act → World → Prop} (hgd : o.guard = none) (s x : Operand) (t : TypeId)
    (ho : o.op = .call { callee := .builtin .append, args := #[s, x], argTypes := #[t, t] }) (bytes : Nat) (z : Value) (T : ElTy P t e size bytes z)
    (D : Option Addr) (hs : a.eval s = .slice D 0 0) (A : Option Addr) (c : Nat) (hx : a.eval x = .slice A n c) (hv : Vec w F e size (.slice A n c) n xs) (h1 : ∀ u ∈ xs, u.oneCell' = true) (hm : n ≤ maxLen) (hbytes : n * bytes ≤ 140737488355328)
    (h : ∀ (A' : Option Addr) (k' : Nat) (w' : World), Vec w' (New w w') e size (.slice A' n k') n xs → Below w.heap.size w w' → ((Value.slice A' n k').ownBlock = (Value.slice D 0 0).ownBlock ∨ (Value.slice A' n k').ownBlock = some w.heap.size ∧ w.heap.size < w'.heap.size) → wpList P ops Q rest (a.put o.dst (.slice A' n k')) w') : wpList P ops Q (o :: rest) a w :=
  wpList_plain hgd fun _ hK => by
    unfold Oper.wp execOp
    by_cases hn : n = 0
    · subst hn
      have hx0 : xs = [] := List.eq_nil_of_length_eq_zero (by have := hv.len; simpa using this)
      subst hx0
      obtain ⟨i, hi, hz, hsz, hby⟩ := T.info
      have hrun : (Builtin.append_ #[t, t] o.type #[.slice D 0 0, .slice A 0 c]).run P w = .ok (.slice D 0 0) w := by
        cases D <;> cases A <;> simp [Builtin.append_, run_underlying T.ht, sizeOf, typeInfo, hi, Builtin.lenOf, Builtin.firstCells, loadCells, loadCellsFrom, storeCells]
      simp only [ho, resolve, invoke, builtin, Sem.run_bind, Sem.run_pure, Result.andThen_ok, List.map_toArray, List.map_cons, List.map_nil, hs, hx, hrun]
      exact hK _ _ (h D 0 w (Vec.nil_ _ _ _ _ _) (Below.refl _ _) (.inl rfl))
    · obtain ⟨g, cap, cur, he, hf, hh, hnc, hcm, hcs, htk⟩ := hv.form (by omega)
      injection he with hA _ hc
      subst hA hc
      have hnews : ∀ j u, xs[j]? = some u → w.cell? ((⟨g, 0, none⟩ : Addr).add j) = some u := fun j u hu => by
        have := hv.at_ hu
        have e : (Addr.add ⟨g, 0, none⟩ j) = ⟨g, j, none⟩ := by
          unfold Addr.add
          split
          · rename_i h; subst h; rfl
          · simp
        rw [e]
        exact this
      obtain ⟨v', w', row, hrun, h2, h3, h4, h5⟩ := run_append_vec2 (P := P) t o.type bytes z T (Vec.nil_ w (fun _ => False) e size D) ⟨g, 0, none⟩ n c xs (by rw [hv.len]) hnews h1 (by omega) (by simpa using hbytes) (by omega)
      have hrow : row = none := by
        rcases h4 with h4 | ⟨g', cs, _, hf', _⟩
        · exact h4
        · exact hf'.elim
      subst hrow
      rw [Nat.zero_add, List.nil_append] at h2
      obtain ⟨A', k', rfl⟩ := h2.shape
      have hbw : Below w.heap.size w w' := (Below.refl _ _).grown h3 (Nat.le_refl _) fun g hg' => by cases hg'
      simp only [ho, resolve, invoke, builtin, Sem.run_bind, Sem.run_pure, Result.andThen_ok, List.map_toArray, List.map_cons, List.map_nil, hs, hx, hrun]
      refine hK _ _ (h A' k' w' (h2.mono fun g _ hg => ?_) hbw ?_)
      · rcases hg with hg | hg
        · exact hg.elim
        · exact hg
      · rcases h5 with h5 | h5
        · exact .inl h5
        · refine .inr ⟨h5, ?_⟩
          obtain ⟨g2, cap2, cur2, he2, hf2, hh2, _⟩ := h2.form (by omega)
          injection he2 with he2
          subst he2
          injection h5 with h5
          subst h5
          exact (Array.getElem?_eq_some_iff.1 hh2).1
end Go.Proofs.YtookhagpgkefpaaDoor.Mem
/- The reference's pager (munimentref09) in memory; its small functions: 'Root', 'Room', 'used', 'Free'. -/
namespace Go.Proofs.YtookhagpgkefpaaDoor.Pag
open Go Go.RowKit Mem Pl Disk Crc _root_.Go.Proofs.YtookhagpgkefpaaDoor.Frame
theorem boolTy : ElTy Tryd.prog 78 4 1 1 (.bool false) := ⟨Tryd.underlying78, by kernel_rfl, by kernel_rfl, by decide⟩
theorem rowsTy : ElTy Tryd.prog 47 38 1 24 (.slice none 0 0) := ⟨Tryd.underlying47, by kernel_rfl, by kernel_rfl, by decide⟩
/-- The reference's pager in plain terms. -/
structure RM where
  pages : Nat
  b : List (List UInt8)
  use : List Bool
  was : List Bool
  root : Int
  com : List (List UInt8)
def RM.free (r : RM) (k : Nat) : Bool := !r.use.getD k false && !r.was.getD k false
def RM.used (r : RM) (p : Int) : Bool := decide (0 ≤ p) && decide (p < (r.pages : Int)) && r.use.getD p.toNat false
def RM.room (r : RM) (n : Nat) : Nat := (List.range n).countP r.free
theorem rroom_next (r : RM) (n : Nat) : r.room (n + 1) = r.room n + if r.free n then 1 else 0 := by
  unfold RM.room
  rw [List.range_succ, List.countP_append, List.countP_singleton]
theorem rroom_le (r : RM) (n : Nat) : r.room n ≤ n := by
  have := List.countP_le_length (p := r.free) (l := List.range n)
  rw [List.length_range] at this
  exact this
def RM.freed (r : RM) (p : Nat) : RM := { r with use := r.use.set p false }
/-- Bytes behind a slice; they lie in blocks of J. -/
def ByJ (w : World) (J : Nat → Prop) (b : List UInt8) (v : Value) : Prop := Vec w J 5 1 v b.length (b.map B8)
theorem ByJ.bat {w : World} {J : Nat → Prop} {b : List UInt8} {v : Value} (h : ByJ w J b v) : ∃ A c, v = .slice A b.length c ∧ BAt w A b := by
  have h' : Vec w J 5 1 v b.length (b.map B8) := h
  obtain ⟨A, c, rfl⟩ := h'.shape
  refine ⟨A, c, rfl, fun h0 => ?_⟩
  obtain ⟨g, _, _, e, _⟩ := h'.form h0
  injection e with e
  subst e
  refine ⟨_, rfl, fun k hk => ?_⟩
  have := h'.at_ (k := k) (u := B8 (b.getD k 0)) (by simp [hk])
  have e : (⟨g, 0, none⟩ : Addr).add k = ⟨g, k, none⟩ := by unfold Addr.add; split <;> simp_all
  rw [e]
  simpa [B8] using this
def RowsJ (w : World) (J : Nat → Prop) (l : List (List UInt8)) (vs : List Value) : Prop := ∀ (k : Nat) (b : List UInt8), l[k]? = some b → ∃ v, vs[k]? = some v ∧ ByJ w J b v
def rCells (r : RM) (gB cB gU cU gW cW gC cC : Nat) : List Value :=
  [.int .i64 (r.pages : Int), .slice (some ⟨gB, 0, none⟩) r.pages cB, .slice (some ⟨gU, 0, none⟩) r.pages cU, .slice (some ⟨gW, 0, none⟩) r.pages cW, .int .i64 r.root, .slice (some ⟨gC, 0, none⟩) r.pages cC]
/-- The reference's rows in memory: K are the blocks that it may write, J those that it reads alone. -/
structure RefD (w : World) (K J : Nat → Prop) (r : RM) (gB cB gU cU gW cW gC cC : Nat) (bs cs : List Value) : Prop where
  pos : 0 < r.pages
  le : r.pages ≤ 384
  bl : r.b.length = r.pages
  cl : r.com.length = r.pages
  rb : Vec w K 38 1 (.slice (some ⟨gB, 0, none⟩) r.pages cB) r.pages bs
  ru : Vec w K 4 1 (.slice (some ⟨gU, 0, none⟩) r.pages cU) r.pages (r.use.map .bool)
  rw_ : Vec w J 4 1 (.slice (some ⟨gW, 0, none⟩) r.pages cW) r.pages (r.was.map .bool)
  rc : Vec w J 38 1 (.slice (some ⟨gC, 0, none⟩) r.pages cC) r.pages cs
  bv : RowsJ w J r.b bs
  cv : RowsJ w J r.com cs
  dis : ∀ g, K g → ¬ J g
  klt : ∀ g, K g → g < w.heap.size
  jlt : ∀ g, J g → g < w.heap.size
structure RefC (w : World) (K J : Nat → Prop) (y : Nat) (r : RM) (gB cB gU cU gW cW gC cC : Nat) (bs cs : List Value) : Prop extends RefD w K J r gB cB gU cU gW cW gC cC bs cs where
  blk : Blk w y 80 (rCells r gB cB gU cU gW cW gC cC).toArray
  own : K y
def RefP (w : World) (K J : Nat → Prop) (y : Nat) (r : RM) : Prop := ∃ gB cB gU cU gW cW gC cC bs cs, RefC w K J y r gB cB gU cU gW cW gC cC bs cs
section
variable {w w' : World} {K J K' J' F : Nat → Prop} {y : Nat} {r : RM} {gB cB gU cU gW cW gC cC : Nat} {bs cs : List Value}
theorem RowsJ.mods {B : Nat} {l : List (List UInt8)} {vs : List Value} (x : RowsJ w J l vs) (hm : Mods B F w w') (hn : ∀ g, g < w.heap.size → J g → g < B ∧ ¬ F g) : RowsJ w' J l vs :=
  fun k b hb => (x k b hb).imp fun _v h => ⟨h.1, Vec.mods h.2 hm hn⟩
theorem RowsJ.mono {l : List (List UInt8)} {vs : List Value} (x : RowsJ w J l vs) (hF : ∀ g, g < w.heap.size → J g → J' g) : RowsJ w J' l vs :=
  fun k b hb => (x k b hb).imp fun _v h => ⟨h.1, Vec.mono h.2 hF⟩
theorem RefD.mods {B : Nat} (x : RefD w K J r gB cB gU cU gW cW gC cC bs cs) (hm : Mods B F w w') (hk : ∀ g, g < w.heap.size → K g → g < B ∧ ¬ F g) (hj : ∀ g, g < w.heap.size → J g → g < B ∧ ¬ F g) : RefD w' K J r gB cB gU cU gW cW gC cC bs cs :=
  ⟨x.pos, x.le, x.bl, x.cl, x.rb.mods hm hk, x.ru.mods hm hk, x.rw_.mods hm hj, x.rc.mods hm hj, x.bv.mods hm hj, x.cv.mods hm hj, x.dis, fun g hg => Nat.lt_of_lt_of_le (x.klt g hg) hm.size, fun g hg => Nat.lt_of_lt_of_le (x.jlt g hg) hm.size⟩
theorem RefC.mods {B : Nat} (x : RefC w K J y r gB cB gU cU gW cW gC cC bs cs) (hm : Mods B F w w') (hk : ∀ g, g < w.heap.size → K g → g < B ∧ ¬ F g) (hj : ∀ g, g < w.heap.size → J g → g < B ∧ ¬ F g) : RefC w' K J y r gB cB gU cU gW cW gC cC bs cs :=
  ⟨x.toRefD.mods hm hk hj, x.blk.mods hm (hk y x.blk.lt x.own).1 (hk y x.blk.lt x.own).2, x.own⟩
theorem RowsJ.far {l : List (List UInt8)} {vs : List Value} (x : RowsJ w J l vs) {p : Addr} {t : TypeId} {cs : Array Value} {fz : Nat × Nat} (hp : w.heap[p.block]? = some (.cells cs t fz)) (hne : t ≠ 5) (u : Value) : RowsJ (w.setCell p u) J l vs :=
  fun k b hb => (x k b hb).imp fun _v h => ⟨h.1, Vec.far h.2 hp hne u⟩
/-- The reference's own numbers are written; its rows stay. -/
theorem RefD.far (x : RefD w K J r gB cB gU cU gW cW gC cC bs cs) {cs' : Array Value} (hp : Blk w y 80 cs') (i : Nat) (u : Value) : RefD (w.setCell ⟨y, i, none⟩ u) K J r gB cB gU cU gW cW gC cC bs cs :=
  ⟨x.pos, x.le, x.bl, x.cl, x.rb.far (p := ⟨y, i, none⟩) hp (by decide) u, x.ru.far (p := ⟨y, i, none⟩) hp (by decide) u, x.rw_.far (p := ⟨y, i, none⟩) hp (by decide) u, x.rc.far (p := ⟨y, i, none⟩) hp (by decide) u, x.bv.far (p := ⟨y, i, none⟩) hp (by decide) u, x.cv.far (p := ⟨y, i, none⟩) hp (by decide) u, x.dis, fun g hg => by simpa using x.klt g hg, fun g hg => by simpa using x.jlt g hg⟩
theorem RefC.below (x : RefC w K J y r gB cB gU cU gW cW gC cC bs cs) (hb : Below w.heap.size w w') : RefC w' K J y r gB cB gU cU gW cW gC cC bs cs :=
  x.mods (Mods.of_below (F := fun _ => False) hb) (fun _g hg _ => ⟨hg, fun y => y⟩) (fun _g hg _ => ⟨hg, fun y => y⟩)
theorem RefP.mods {B : Nat} (x : RefP w K J y r) (hm : Mods B F w w') (hk : ∀ g, g < w.heap.size → K g → g < B ∧ ¬ F g) (hj : ∀ g, g < w.heap.size → J g → g < B ∧ ¬ F g) : RefP w' K J y r := by
  obtain ⟨gB, cB, gU, cU, gW, cW, gC, cC, bs, cs, x⟩ := x
  exact ⟨gB, cB, gU, cU, gW, cW, gC, cC, bs, cs, x.mods hm hk hj⟩
theorem RefP.below (x : RefP w K J y r) (hb : Below w.heap.size w w') : RefP w' K J y r := by
  obtain ⟨gB, cB, gU, cU, gW, cW, gC, cC, bs, cs, x⟩ := x
  exact ⟨gB, cB, gU, cU, gW, cW, gC, cC, bs, cs, x.below hb⟩
theorem RefC.c0 (x : RefC w K J y r gB cB gU cU gW cW gC cC bs cs) : w.cell? ⟨y, 0, none⟩ = some (.int .i64 (r.pages : Int)) := (x.blk.cell 0).trans rfl
theorem RefC.c1 (x : RefC w K J y r gB cB gU cU gW cW gC cC bs cs) : w.cell? ⟨y, 1, none⟩ = some (.slice (some ⟨gB, 0, none⟩) r.pages cB) := (x.blk.cell 1).trans rfl
theorem RefC.c2 (x : RefC w K J y r gB cB gU cU gW cW gC cC bs cs) : w.cell? ⟨y, 2, none⟩ = some (.slice (some ⟨gU, 0, none⟩) r.pages cU) := (x.blk.cell 2).trans rfl
theorem RefC.c3 (x : RefC w K J y r gB cB gU cU gW cW gC cC bs cs) : w.cell? ⟨y, 3, none⟩ = some (.slice (some ⟨gW, 0, none⟩) r.pages cW) := (x.blk.cell 3).trans rfl
theorem RefC.c4 (x : RefC w K J y r gB cB gU cU gW cW gC cC bs cs) : w.cell? ⟨y, 4, none⟩ = some (.int .i64 r.root) := (x.blk.cell 4).trans rfl
theorem RefC.c5 (x : RefC w K J y r gB cB gU cU gW cW gC cC bs cs) : w.cell? ⟨y, 5, none⟩ = some (.slice (some ⟨gC, 0, none⟩) r.pages cC) := (x.blk.cell 5).trans rfl
theorem RefC.ul (x : RefC w K J y r gB cB gU cU gW cW gC cC bs cs) : r.use.length = r.pages := by have := x.ru.len; simpa using this
theorem RefC.wl (x : RefC w K J y r gB cB gU cU gW cW gC cC bs cs) : r.was.length = r.pages := by have := x.rw_.len; simpa using this
theorem RefC.useAt (x : RefC w K J y r gB cB gU cU gW cW gC cC bs cs) {k : Nat} (hk : k < r.pages) : w.cell? ⟨gU, k, none⟩ = some (.bool (r.use.getD k false)) :=
  x.ru.at_ (by have := x.ul; simp [this, hk])
theorem RefC.wasAt (x : RefC w K J y r gB cB gU cU gW cW gC cC bs cs) {k : Nat} (hk : k < r.pages) : w.cell? ⟨gW, k, none⟩ = some (.bool (r.was.getD k false)) :=
  x.rw_.at_ (by have := x.wl; simp [this, hk])
theorem rroot_any (x : RefP w K J y r) : Calls Tryd.prog 46 #[.pointer (some ⟨y, 0, none⟩)] w fun e w' => e = .returned (.int .i64 r.root) ∧ w = w' := by
  obtain ⟨gB, cB, gU, cU, gW, cW, gC, cC, bs, cs, x⟩ := x
  have c4 := x.c4
  clear x
  go_enter Tryd.func46, Tryd.ntmps46
  go_wp2_with fail
  go_ret
  exact ⟨rfl, rfl⟩
def RRoomR (r : RM) (w : World) (nv iv : Value) (wr : World) : Prop := ∃ i : Nat, i ≤ r.pages ∧ iv = .int .i64 (i : Int) ∧ nv = .int .i64 (r.room i : Int) ∧ wr = w
theorem rroom_any (x : RefP w K J y r) : Calls Tryd.prog 47 #[.pointer (some ⟨y, 0, none⟩)] w fun e w' => e = .returned (.int .i64 (r.room r.pages : Int)) ∧ w = w' := by
  obtain ⟨gB, cB, gU, cU, gW, cW, gC, cC, bs, cs, x⟩ := x
  have c0 := x.c0
  have c2 := x.c2
  have c3 := x.c3
  have hle := x.le
  have HX := Lib.hid x
  clear x
  go_enter Tryd.func47, Tryd.ntmps47
  go_wp2_with fail
  go_loopw [3, 4] (fun nv iv wr => RRoomR r w nv iv wr) (fun _ iv _ => r.pages - (intOf iv).toNat)
  case atStart => exact ⟨0, by omega, rfl, rfl, rfl⟩
  case round =>
    obtain ⟨i, hi, rfl, rfl, rfl⟩ := hrel
    by_cases hlt : i < r.pages
    · have hiI : (i : Int) < (r.pages : Int) := by omega
      have hrl := rroom_le r i
      have HN := Lib.hid (rroom_next r i)
      have hu := HX.out.useAt hlt
      have hw := HX.out.wasAt hlt
      cases hu0 : r.use.getD i false with
      | true =>
        rw [hu0] at hu
        have HF := Lib.hid (show r.free i = false by unfold RM.free; rw [hu0]; rfl)
        clear hu0
        go_wp2_with fail
        go_roundw
        case rel => exact ⟨i + 1, by omega, by simp, by rw [HN.out, HF.out]; simp, rfl⟩
        case measure => simp [intOf]; omega
      | false =>
        rw [hu0] at hu
        cases hw0 : r.was.getD i false with
        | true =>
          rw [hw0] at hw
          have HF := Lib.hid (show r.free i = false by unfold RM.free; rw [hu0, hw0]; rfl)
          clear hu0 hw0
          go_wp2_with fail
          go_roundw
          case rel => exact ⟨i + 1, by omega, by simp, by rw [HN.out, HF.out]; simp, rfl⟩
          case measure => simp [intOf]; omega
        | false =>
          rw [hw0] at hw
          have HF := Lib.hid (show r.free i = true by unfold RM.free; rw [hu0, hw0]; rfl)
          clear hu0 hw0
          go_wp2_with fail
          go_roundw
          case rel => exact ⟨i + 1, by omega, by simp, by rw [HN.out, HF.out]; simp, rfl⟩
          case measure => simp [intOf]; omega
    · obtain rfl : r.pages = i := by omega
      go_wp2_with fail
      go_ret
      exact ⟨rfl, rfl⟩
theorem rused_any (x : RefP w K J y r) (p : Int) : Calls Tryd.prog 44 #[.pointer (some ⟨y, 0, none⟩), .int .i64 p] w fun e w' => e = .returned (.bool (r.used p)) ∧ w = w' := by
  obtain ⟨gB, cB, gU, cU, gW, cW, gC, cC, bs, cs, x⟩ := x
  have c0 := x.c0
  have c2 := x.c2
  by_cases h0 : 0 ≤ p
  · obtain ⟨k, rfl⟩ := Int.eq_ofNat_of_zero_le h0
    have hge : (0 : Int) ≤ (k : Int) := by omega
    by_cases hk : k < r.pages
    · have hkI : (k : Int) < (r.pages : Int) := by omega
      have hu := x.useAt hk
      have HE : Hid (r.used (k : Int) = r.use.getD k false) := Lib.hid (by unfold RM.used; simp; omega)
      clear x h0
      generalize r.use.getD k false = ub at *
      go_enter Tryd.func44, Tryd.ntmps44
      go_wp2_with fail
      go_ret
      exact ⟨by rw [HE.out]; rfl, rfl⟩
    · have hkI : ¬ (k : Int) < (r.pages : Int) := by omega
      have HE : Hid (r.used (k : Int) = false) := Lib.hid (by unfold RM.used; simp; omega)
      clear x h0
      go_enter Tryd.func44, Tryd.ntmps44
      go_wp2_with fail
      go_ret
      exact ⟨by rw [HE.out]; rfl, rfl⟩
  · have HE : Hid (r.used p = false) := Lib.hid (by unfold RM.used; simp; omega)
    clear x
    go_enter Tryd.func44, Tryd.ntmps44
    go_wp2_with fail
    go_ret
    exact ⟨by rw [HE.out]; rfl, rfl⟩
end
end Go.Proofs.YtookhagpgkefpaaDoor.Pag
/- The reference's 'Free', 'Read', 'Commit', 'Drop'. -/
namespace Go.Proofs.YtookhagpgkefpaaDoor.Pag
open Go Go.RowKit Mem Pl Disk Crc _root_.Go.Proofs.YtookhagpgkefpaaDoor.Frame
def RM.commit (r : RM) (root : Int) : RM := { r with was := r.use, root := root, com := r.b }
def RM.drop (r : RM) : RM := { r with use := r.was, b := r.com }
section
variable {w w' : World} {K J K' J' F : Nat → Prop} {y : Nat} {r : RM} {gB cB gU cU gW cW gC cC : Nat} {bs cs : List Value}
theorem Vec.own_ {e : TypeId} {n g c : Nat} {xs : List Value} (h : Vec w F e 1 (.slice (some ⟨g, 0, none⟩) n c) n xs) (h0 : 0 < n) : F g := (h.blockF h0).1
theorem bytTy : ElTy Tryd.prog 38 5 1 1 (.int .u8 0) := ⟨Tryd.underlying38, by kernel_rfl, by kernel_rfl, by decide⟩
theorem B8_ones (b : List UInt8) : ∀ u ∈ b.map B8, u.oneCell' = true := fun u hu => by
  obtain ⟨x, _, rfl⟩ := List.mem_map.1 hu
  rfl
/-- A page is given up, or put: its bit is written. -/
theorem RefC.setU (x : RefC w K J y r gB cB gU cU gW cW gC cC bs cs) (k : Nat) (v : Bool) : RefC (w.setCell ⟨gU, k, none⟩ (.bool v)) K J y { r with use := r.use.set k v } gB cB gU cU gW cW gC cC bs cs := by
  obtain ⟨hK, cur, hU⟩ := x.ru.blockF x.pos
  have hm : Mods w.heap.size (fun g => g = gU) w (w.setCell ⟨gU, k, none⟩ (.bool v)) := (Mods.refl w.heap.size (fun g => g = gU) w).setCell (p := ⟨gU, k, none⟩) (.inl rfl) _
  have hJ : ∀ g, g < w.heap.size → J g → g < w.heap.size ∧ ¬ g = gU := fun g hg hj => ⟨hg, fun e => x.dis g (e ▸ hK) hj⟩
  refine ⟨⟨x.pos, x.le, x.bl, x.cl, x.rb.far (p := ⟨gU, k, none⟩) hU (by decide) _, ?_, x.rw_.mods hm hJ, x.rc.mods hm hJ, x.bv.mods hm hJ, x.cv.mods hm hJ, x.dis, fun g hg => by simpa using x.klt g hg, fun g hg => by simpa using x.jlt g hg⟩, x.blk.far (p := ⟨gU, k, none⟩) (x.blk.ne_ (t' := 4) hU (by decide)) _, x.own⟩
  have := x.ru.set k (.bool v)
  rw [List.map_set]
  exact this
theorem RefC.modsU (x : RefC w K J y r gB cB gU cU gW cW gC cC bs cs) (k : Nat) (v : Value) : Mods w.heap.size K w (w.setCell ⟨gU, k, none⟩ v) :=
  (Mods.refl _ _ _).setCell (.inl (x.ru.blockF x.pos).1) _
theorem rused_nat {p : Int} (h : r.used p = true) : ∃ k : Nat, p = (k : Int) ∧ k < r.pages ∧ r.use.getD k false = true := by
  unfold RM.used at h
  simp only [Bool.and_eq_true, decide_eq_true_eq] at h
  obtain ⟨⟨h1, h2⟩, h3⟩ := h
  exact ⟨p.toNat, by omega, by omega, h3⟩
theorem rfree_any (x : RefP w K J y r) (p : Int) : Calls Tryd.prog 17 #[.pointer (some ⟨y, 0, none⟩), .int .i64 p] w fun e w' =>
    (r.used p = false ∧ e = .returned (.int .i64 90) ∧ w = w') ∨ (r.used p = true ∧ e = .returned (.int .i64 0) ∧ Mods w.heap.size K w w' ∧ RefP w' K J y (r.freed p.toNat)) := by
  have HU := Lib.hid (rused_any x p)
  obtain ⟨gB, cB, gU, cU, gW, cW, gC, cC, bs, cs, x⟩ := x
  have HX := Lib.hid x
  cases hu : r.used p with
  | false =>
    have HU2 : Hid (Calls Tryd.prog 44 #[.pointer (some ⟨y, 0, none⟩), .int .i64 p] w fun e w' => e = .returned (.bool false) ∧ w = w') := Lib.hid (hu ▸ HU.out)
    clear x hu HU
    go_enter Tryd.func17, Tryd.ntmps17
    go_wp2_with fail
    refine HU2.out.mono ?_
    rintro e _ ⟨rfl, rfl⟩
    go_wp2_with fail
    go_ret
    exact .inl ⟨trivial, rfl, rfl⟩
  | true =>
    have HU2 : Hid (Calls Tryd.prog 44 #[.pointer (some ⟨y, 0, none⟩), .int .i64 p] w fun e w' => e = .returned (.bool true) ∧ w = w') := Lib.hid (hu ▸ HU.out)
    obtain ⟨k, rfl, hk, _⟩ := rused_nat hu
    have c2 := x.c2
    have cu := x.useAt hk
    have z := x.ru.free x.pos k
    clear x hu HU
    go_enter Tryd.func17, Tryd.ntmps17
    go_wp2_with fail
    refine HU2.out.mono ?_
    rintro e _ ⟨rfl, rfl⟩
    go_wp2_with fail
    go_ret
    exact .inr ⟨trivial, rfl, HX.out.modsU k _, _, _, _, _, _, _, _, _, _, _, HX.out.setU k false⟩
theorem rread_any (x : RefP w K J y r) (hlen : ∀ b ∈ r.b, b.length ≤ 100000000) (p : Int) : Calls Tryd.prog 48 #[.pointer (some ⟨y, 0, none⟩), .int .i64 p] w fun e w' =>
    Below w.heap.size w w' ∧ ((r.used p = false ∧ e = .returned (.tuple #[.slice none 0 0, .int .i64 90])) ∨ ∃ b A c, r.used p = true ∧ r.b[p.toNat]? = some b ∧ e = .returned (.tuple #[.slice A b.length c, .int .i64 0]) ∧ BAt w' A b) := by
  have HU := Lib.hid (rused_any x p)
  obtain ⟨gB, cB, gU, cU, gW, cW, gC, cC, bs, cs, x⟩ := x
  have HX := Lib.hid x
  cases hu : r.used p with
  | false =>
    have HU2 : Hid (Calls Tryd.prog 44 #[.pointer (some ⟨y, 0, none⟩), .int .i64 p] w fun e w' => e = .returned (.bool false) ∧ w = w') := Lib.hid (hu ▸ HU.out)
    clear x hu HU
    go_enter Tryd.func48, Tryd.ntmps48
    go_wp2_with fail
    refine HU2.out.mono ?_
    rintro e _ ⟨rfl, rfl⟩
    go_wp2_with fail
    go_ret2
    exact ⟨Below.refl _ _, .inl ⟨trivial, rfl⟩⟩
  | true =>
    have HU2 : Hid (Calls Tryd.prog 44 #[.pointer (some ⟨y, 0, none⟩), .int .i64 p] w fun e w' => e = .returned (.bool true) ∧ w = w') := Lib.hid (hu ▸ HU.out)
    obtain ⟨k, rfl, hk, _⟩ := rused_nat hu
    obtain ⟨b, hb⟩ : ∃ b, r.b[k]? = some b := ⟨_, List.getElem?_eq_getElem (by rw [x.bl]; exact hk)⟩
    have hbl := hlen b (List.mem_of_getElem? hb)
    obtain ⟨v, hv, hbv⟩ := x.bv k b hb
    obtain ⟨A, c, rfl, _⟩ := hbv.bat
    have hba := below_al' (w := w) (.cells #[] 5)
    have hx1 := x.below hba
    have c1 := hx1.c1
    have cb := hx1.rb.at_ hv
    have HBV := Lib.hid (Vec.below (show Vec w J 5 1 _ _ _ from hbv) hba)
    have HB := Lib.hid hb
    have HBA := Lib.hid hba
    clear x hu HU hv hbv hb hx1 hba
    go_enter Tryd.func48, Tryd.ntmps48
    go_wp2_with fail
    refine HU2.out.mono ?_
    rintro e _ ⟨rfl, rfl⟩
    go_wp2_with
      (at_builtin
       refine wpList_copy_vec rfl (.tmp 10) (.tmp 17) _ rfl 1 _ bytTy _ rfl A c rfl HBV.out (B8_ones b) (by unfold maxLen; omega) (by omega) ?_
       intro A3 c3 w3 hv3 hb3 ho3
       have HV3 := Lib.hid hv3
       have HB3 := Lib.hid hb3
       clear hv3 hb3 ho3)
    go_ret2
    refine ⟨HBA.out.trans (HB3.out.mono HBA.out.size), .inr ⟨b, A3, c3, trivial, HB.out, rfl, ?_⟩⟩
    obtain ⟨A4, c4, e4, h4⟩ := ByJ.bat (show ByJ w3 _ b (.slice A3 b.length c3) from HV3.out)
    injection e4 with e4
    subst e4
    exact h4
theorem bools_one (us : List Bool) : ∀ u ∈ us.map Value.bool, u.oneCell' = true := fun u hu => by
  obtain ⟨x, _, rfl⟩ := List.mem_map.1 hu
  rfl
theorem RefD.rows_one (x : RefD w K J r gB cB gU cU gW cW gC cC bs cs) : ∀ u ∈ bs, u.oneCell' = true := fun u hu => by
  obtain ⟨k, hk, rfl⟩ := List.mem_iff_getElem.1 hu
  have hl := x.rb.len
  have hbl := x.bl
  obtain ⟨v, hv, hb⟩ := x.bv k (r.b.getD k []) (by rw [List.getD_eq_getElem?_getD, List.getElem?_eq_getElem (by omega)]; rfl)
  rw [List.getElem?_eq_getElem hk] at hv
  injection hv with hv
  obtain ⟨A, c, rfl, _⟩ := hb.bat
  rw [hv]
  rfl
theorem RefD.coms_one (x : RefD w K J r gB cB gU cU gW cW gC cC bs cs) : ∀ u ∈ cs, u.oneCell' = true := fun u hu => by
  obtain ⟨k, hk, rfl⟩ := List.mem_iff_getElem.1 hu
  have hl := x.rc.len
  have hbl := x.cl
  obtain ⟨v, hv, hb⟩ := x.cv k (r.com.getD k []) (by rw [List.getD_eq_getElem?_getD, List.getElem?_eq_getElem (by omega)]; rfl)
  rw [List.getElem?_eq_getElem hk] at hv
  injection hv with hv
  obtain ⟨A, c, rfl, _⟩ := hb.bat
  rw [hv]
  rfl
theorem RefC.below' (x : RefC w K J y r gB cB gU cU gW cW gC cC bs cs) (hb : Below w.heap.size w w') : RefC w' K J y r gB cB gU cU gW cW gC cC bs cs := x.below hb
/-- The root is written. -/
theorem RefC.setRoot (x : RefC w K J y r gB cB gU cU gW cW gC cC bs cs) (root : Int) : RefC (w.setCell ⟨y, 4, none⟩ (.int .i64 root)) K J y { r with root := root } gB cB gU cU gW cW gC cC bs cs := by
  have h := x.toRefD.far x.blk 4 (.int .i64 root)
  exact ⟨⟨h.pos, h.le, h.bl, h.cl, h.rb, h.ru, h.rw_, h.rc, h.bv, h.cv, h.dis, h.klt, h.jlt⟩, by simpa [rCells] using x.blk.set_ 4 (.int .i64 root), x.own⟩
/-- What is in use is said to be committed: a row of its own. -/
theorem RefC.setWas (x : RefC w K J y r gB cB gU cU gW cW gC cC bs cs) {g3 c3 : Nat} {us : List Bool} (hv : Vec w F 4 1 (.slice (some ⟨g3, 0, none⟩) r.pages c3) r.pages (us.map .bool))
    (hF : ∀ g, F g → ¬ K g ∧ g < w.heap.size) : RefC (w.setCell ⟨y, 3, none⟩ (.slice (some ⟨g3, 0, none⟩) r.pages c3)) K (fun g => J g ∨ F g) y { r with was := us } gB cB gU cU g3 c3 gC cC bs cs := by
  have h := x.toRefD.far x.blk 3 (.slice (some ⟨g3, 0, none⟩) r.pages c3)
  have hv' := (hv.far (p := ⟨y, 3, none⟩) x.blk (by decide) (.slice (some ⟨g3, 0, none⟩) r.pages c3)).mono (G := fun g => J g ∨ F g) fun g _ hg => .inr hg
  have hi : ∀ g, g < (w.setCell ⟨y, 3, none⟩ (.slice (some ⟨g3, 0, none⟩) r.pages c3)).heap.size → J g → J g ∨ F g := fun g _ hg => .inl hg
  refine ⟨⟨h.pos, h.le, h.bl, h.cl, h.rb, h.ru, hv', h.rc.mono hi, h.bv.mono hi, h.cv.mono hi, fun g hk hg => ?_, h.klt, fun g hg => ?_⟩, by simpa [rCells] using x.blk.set_ 3 (.slice (some ⟨g3, 0, none⟩) r.pages c3), x.own⟩
  · rcases hg with hg | hg
    · exact x.dis g hk hg
    · exact (hF g hg).1 hk
  · rcases hg with hg | hg
    · exact h.jlt g hg
    · simpa using (hF g hg).2
theorem RefC.setCom (x : RefC w K J y r gB cB gU cU gW cW gC cC bs cs) {g3 c3 : Nat} {l : List (List UInt8)} {vs : List Value} (hv : Vec w F 38 1 (.slice (some ⟨g3, 0, none⟩) r.pages c3) r.pages vs) (hl : l.length = r.pages) (hr : RowsJ w J l vs)
    (hF : ∀ g, F g → ¬ K g ∧ g < w.heap.size) : RefC (w.setCell ⟨y, 5, none⟩ (.slice (some ⟨g3, 0, none⟩) r.pages c3)) K (fun g => J g ∨ F g) y { r with com := l } gB cB gU cU gW cW g3 c3 bs vs := by
  have h := x.toRefD.far x.blk 5 (.slice (some ⟨g3, 0, none⟩) r.pages c3)
  have hv' := (hv.far (p := ⟨y, 5, none⟩) x.blk (by decide) (.slice (some ⟨g3, 0, none⟩) r.pages c3)).mono (G := fun g => J g ∨ F g) fun g _ hg => .inr hg
  have hr' := hr.far (p := ⟨y, 5, none⟩) x.blk (by decide) (.slice (some ⟨g3, 0, none⟩) r.pages c3)
  have hi : ∀ g, g < (w.setCell ⟨y, 5, none⟩ (.slice (some ⟨g3, 0, none⟩) r.pages c3)).heap.size → J g → J g ∨ F g := fun g _ hg => .inl hg
  refine ⟨⟨h.pos, h.le, h.bl, hl, h.rb, h.ru, h.rw_.mono hi, hv', h.bv.mono hi, hr'.mono hi, fun g hk hg => ?_, h.klt, fun g hg => ?_⟩, by simpa [rCells] using x.blk.set_ 5 (.slice (some ⟨g3, 0, none⟩) r.pages c3), x.own⟩
  · rcases hg with hg | hg
    · exact x.dis g hk hg
    · exact (hF g hg).1 hk
  · rcases hg with hg | hg
    · exact h.jlt g hg
    · simpa using (hF g hg).2
theorem RefC.setUse (x : RefC w K J y r gB cB gU cU gW cW gC cC bs cs) {g3 c3 : Nat} {us : List Bool} (hv : Vec w F 4 1 (.slice (some ⟨g3, 0, none⟩) r.pages c3) r.pages (us.map .bool))
    (hF : ∀ g, F g → ¬ J g ∧ g < w.heap.size) : RefC (w.setCell ⟨y, 2, none⟩ (.slice (some ⟨g3, 0, none⟩) r.pages c3)) (fun g => K g ∨ F g) J y { r with use := us } gB cB g3 c3 gW cW gC cC bs cs := by
  have h := x.toRefD.far x.blk 2 (.slice (some ⟨g3, 0, none⟩) r.pages c3)
  have hv' := (hv.far (p := ⟨y, 2, none⟩) x.blk (by decide) (.slice (some ⟨g3, 0, none⟩) r.pages c3)).mono (G := fun g => K g ∨ F g) fun g _ hg => .inr hg
  refine ⟨⟨h.pos, h.le, h.bl, h.cl, h.rb.mono fun g _ hg => .inl hg, hv', h.rw_, h.rc, h.bv, h.cv, fun g hk hg => ?_, fun g hg => ?_, h.jlt⟩, by simpa [rCells] using x.blk.set_ 2 (.slice (some ⟨g3, 0, none⟩) r.pages c3), .inl x.own⟩
  · rcases hk with hk | hk
    · exact x.dis g hk hg
    · exact (hF g hk).1 hg
  · rcases hg with hg | hg
    · exact h.klt g hg
    · simpa using (hF g hg).2
theorem RefC.setB (x : RefC w K J y r gB cB gU cU gW cW gC cC bs cs) {g3 c3 : Nat} {l : List (List UInt8)} {vs : List Value} (hv : Vec w F 38 1 (.slice (some ⟨g3, 0, none⟩) r.pages c3) r.pages vs) (hl : l.length = r.pages) (hr : RowsJ w J l vs)
    (hF : ∀ g, F g → ¬ J g ∧ g < w.heap.size) : RefC (w.setCell ⟨y, 1, none⟩ (.slice (some ⟨g3, 0, none⟩) r.pages c3)) (fun g => K g ∨ F g) J y { r with b := l } g3 c3 gU cU gW cW gC cC vs cs := by
  have h := x.toRefD.far x.blk 1 (.slice (some ⟨g3, 0, none⟩) r.pages c3)
  have hv' := (hv.far (p := ⟨y, 1, none⟩) x.blk (by decide) (.slice (some ⟨g3, 0, none⟩) r.pages c3)).mono (G := fun g => K g ∨ F g) fun g _ hg => .inr hg
  have hr' := hr.far (p := ⟨y, 1, none⟩) x.blk (by decide) (.slice (some ⟨g3, 0, none⟩) r.pages c3)
  refine ⟨⟨h.pos, h.le, hl, h.cl, hv', h.ru.mono fun g _ hg => .inl hg, h.rw_, h.rc, hr', h.cv, fun g hk hg => ?_, fun g hg => ?_, h.jlt⟩, by simpa [rCells] using x.blk.set_ 1 (.slice (some ⟨g3, 0, none⟩) r.pages c3), .inl x.own⟩
  · rcases hk with hk | hk
    · exact x.dis g hk hg
    · exact (hF g hk).1 hg
  · rcases hg with hg | hg
    · exact h.klt g hg
    · simpa using (hF g hg).2
end
end Go.Proofs.YtookhagpgkefpaaDoor.Pag
/- The reference's 'Drop', 'Commit'. -/
namespace Go.Proofs.YtookhagpgkefpaaDoor.Pag
open Go Go.RowKit Mem Pl Disk Crc _root_.Go.Proofs.YtookhagpgkefpaaDoor.Frame
section
variable {w w' : World} {K J K' J' F : Nat → Prop} {y : Nat} {r : RM} {gB cB gU cU gW cW gC cC : Nat} {bs cs : List Value}
theorem vec_at {e : TypeId} {n c : Nat} {A : Option Addr} {xs : List Value} (h : Vec w F e 1 (.slice A n c) n xs) (h0 : 0 < n) : ∃ g, A = some ⟨g, 0, none⟩ := by
  obtain ⟨g, cap, cur, e1, _⟩ := h.form h0
  injection e1 with e1
  exact ⟨g, e1⟩
theorem new_far {S : Nat → Prop} {w0 w1 w2 : World} (h : ∀ g, S g → g < w0.heap.size) (h1 : w0.heap.size ≤ w1.heap.size) : ∀ g, New w1 w2 g → ¬ S g ∧ g < w2.heap.size :=
  fun g hg => ⟨fun hs => by have := h g hs; have := hg.1; omega, hg.2⟩
theorem RefC.more (x : RefC w K J y r gB cB gU cU gW cW gC cC bs cs) (hK : ∀ g, K g → K' g) (hJ : ∀ g, J g → J' g) (hd : ∀ g, K' g → ¬ J' g) (hk : ∀ g, K' g → g < w.heap.size) (hj : ∀ g, J' g → g < w.heap.size) : RefC w K' J' y r gB cB gU cU gW cW gC cC bs cs :=
  ⟨⟨x.pos, x.le, x.bl, x.cl, x.rb.mono fun g _ h => hK g h, x.ru.mono fun g _ h => hK g h, x.rw_.mono fun g _ h => hJ g h, x.rc.mono fun g _ h => hJ g h, x.bv.mono fun g _ h => hJ g h, x.cv.mono fun g _ h => hJ g h, hd, hk, hj⟩, x.blk, hK y x.own⟩
set_option maxHeartbeats 2000000 in
theorem rdrop_any (x : RefP w K J y r) : Calls Tryd.prog 20 #[.pointer (some ⟨y, 0, none⟩)] w fun e w' =>
    e = .returned (.tuple #[]) ∧ Mods w.heap.size K w w' ∧ RefP w' (Grow K w w') J y r.drop := by
  obtain ⟨gB, cB, gU, cU, gW, cW, gC, cC, bs, cs, x⟩ := x
  have hp := x.pos
  have hp384 := x.le
  have hba := below_al' (w := w) (.cells #[] 4)
  have hx1 := x.below hba
  have c3 := hx1.c3
  have hyl := hx1.blk.lt
  have HX := Lib.hid x
  have HX1 := Lib.hid hx1
  have HBA := Lib.hid hba
  clear x hx1 hba
  go_enter Tryd.func20, Tryd.ntmps20
  go_upto_region 1 with
    (at_builtin
     refine wpList_copy_vec rfl (.tmp 3) (.tmp 7) _ rfl 1 _ boolTy _ rfl (some ⟨gW, 0, none⟩) cW rfl HX1.out.rw_ (bools_one _) (by unfold maxLen; omega) (by omega) ?_
     intro A3 c3' w3 hv3 hb3 ho3
     obtain ⟨g3, rfl⟩ := vec_at hv3 hp
     have hx3 := HX1.out.below hb3
     have s2 := hx3.c2
     have z2 := hx3.blk.frozen 2
     have hl3 := hx3.blk.lt
     have HX3 := Lib.hid hx3
     have HV3 := Lib.hid hv3
     have HB3 := Lib.hid hb3
     clear hv3 hb3 ho3 hx3)
  have hx4 := HX3.out.setUse HV3.out (new_far HX1.out.jlt (Nat.le_refl _))
  have hm4 : Mods w.heap.size K w (w3.setCell ⟨y, 2, none⟩ (.slice (some ⟨g3, 0, none⟩) r.pages c3')) := ((Mods.of_below (HBA.out.trans (HB3.out.mono HBA.out.size)))).setCell (.inl HX.out.own) _
  have HS : Hid ((w.alloc (.cells #[] 4)).heap.size = w.heap.size + 1) := Lib.hid (by simp)
  have HX4 := Lib.hid hx4
  have HM4 := Lib.hid hm4
  clear s2 z2 hl3 hx4 hm4
  generalize w3.setCell ⟨y, 2, none⟩ (.slice (some ⟨g3, 0, none⟩) r.pages c3') = w4 at *
  have hba5 := below_al' (w := w4) (.cells #[] 38)
  have hx5 := HX4.out.below hba5
  have c5 := hx5.c5
  have hyl5 := hx5.blk.lt
  have HX5 := Lib.hid hx5
  have HBA5 := Lib.hid hba5
  clear hx5 hba5
  go_wp2_with
    (at_builtin
     refine wpList_copy_vec rfl (.tmp 12) (.tmp 16) _ rfl 24 _ rowsTy _ rfl (some ⟨gC, 0, none⟩) cC rfl HX5.out.rc HX5.out.coms_one (by unfold maxLen; omega) (by omega) ?_
     intro A6 c6 w6 hv6 hb6 ho6
     obtain ⟨g6, rfl⟩ := vec_at hv6 hp
     have hx6 := HX5.out.below hb6
     have s1 := hx6.c1
     have z1 := hx6.blk.frozen 1
     have hl6 := hx6.blk.lt
     have HX6 := Lib.hid hx6
     have HV6 := Lib.hid hv6
     have HB6 := Lib.hid hb6
     clear hv6 hb6 ho6 hx6)
  go_end0
  have hx7 := HX6.out.setB HV6.out HX5.out.cl HX6.out.cv (new_far HX5.out.jlt (Nat.le_refl _))
  have h45 : Below w4.heap.size w4 w6 := HBA5.out.trans (HB6.out.mono HBA5.out.size)
  have hm7 : Mods w.heap.size K w (w6.setCell ⟨y, 1, none⟩ (.slice (some ⟨g6, 0, none⟩) r.pages c6)) := (HM4.out.then_below h45 HM4.out.size).setCell (.inl HX.out.own) _
  have hs5 := HBA5.out.size
  have hs6 := HB6.out.size
  have hs3 := HB3.out.size
  have hs0 := HS.out
  have hs4 := HM4.out.size
  refine ⟨rfl, hm7, _, _, _, _, _, _, _, _, _, _, hx7.more (fun g hg => ?_) (fun g hg => hg) (fun g hg hj => ?_) (fun g hg => ?_) hx7.jlt⟩
  · rcases hg with (hg | hg) | hg
    · exact .inl hg
    · exact .inr ⟨by have := hg.1; omega, hx7.klt g (.inl (.inr hg))⟩
    · exact .inr ⟨by have := hg.1; omega, hx7.klt g (.inr hg)⟩
  · rcases hg with hg | hg
    · exact HX.out.dis g hg hj
    · have := HX.out.jlt g hj
      have := hg.1
      omega
  · rcases hg with hg | hg
    · exact hx7.klt g (.inl (.inl hg))
    · exact hg.2
set_option maxHeartbeats 2000000 in
theorem rcommit_any (x : RefP w K J y r) (root : Int) : Calls Tryd.prog 19 #[.pointer (some ⟨y, 0, none⟩), .int .i64 root] w fun e w' =>
    (root ≠ -1 ∧ r.used root = false ∧ e = .returned (.int .i64 90) ∧ w = w') ∨ ((root = -1 ∨ r.used root = true) ∧ e = .returned (.int .i64 0) ∧ Mods w.heap.size K w w' ∧ RefP w' K (Grow J w w') y (r.commit root)) := by
  have HU := Lib.hid (rused_any x root)
  obtain ⟨gB, cB, gU, cU, gW, cW, gC, cC, bs, cs, x⟩ := x
  have hp := x.pos
  have hp384 := x.le
  have hyl := x.blk.lt
  have c2 := x.c2
  have c4 := x.c4
  have z4 := x.blk.frozen 4
  have HX := Lib.hid x
  clear x
  by_cases hr : root = -1
  · subst hr
    clear HU
    go_enter Tryd.func19, Tryd.ntmps19
    go_upto_region 4 with fail
    have HX1 := Lib.hid (HX.out.setRoot (-1))
    have HM1 : Hid (Mods w.heap.size K w (w.setCell ⟨y, 4, none⟩ (.int .i64 (-1)))) := Lib.hid ((Mods.refl w.heap.size K w).setCell (p := ⟨y, 4, none⟩) (.inl HX.out.own) _)
    clear c2 c4 z4 hyl
    generalize w.setCell ⟨y, 4, none⟩ (.int .i64 (-1)) = w1 at *
    have hba2 := below_al' (w := w1) (.cells #[] 4)
    have hx2 := HX1.out.below hba2
    have c2 := hx2.c2
    have hyl := hx2.blk.lt
    have HX2 := Lib.hid hx2
    have HBA := Lib.hid hba2
    clear hx2 hba2
    go_upto_region 5 with
      (at_builtin
       refine wpList_copy_vec rfl (.tmp 18) (.tmp 22) _ rfl 1 _ boolTy _ rfl (some ⟨gU, 0, none⟩) cU rfl HX2.out.ru (bools_one _) (by unfold maxLen; omega) (by omega) ?_
       intro A3 c3' w3 hv3 hb3 ho3
       obtain ⟨g3, rfl⟩ := vec_at hv3 hp
       have hx3 := HX2.out.below hb3
       have s3 := hx3.c3
       have z3 := hx3.blk.frozen 3
       have hl3 := hx3.blk.lt
       have HX3 := Lib.hid hx3
       have HV3 := Lib.hid hv3
       have HB3 := Lib.hid hb3
       clear hv3 hb3 ho3 hx3)
    have hx4 := HX3.out.setWas HV3.out (new_far HX2.out.klt (Nat.le_refl _))
    have hm4 : Mods w.heap.size K w (w3.setCell ⟨y, 3, none⟩ (.slice (some ⟨g3, 0, none⟩) r.pages c3')) := (HM1.out.then_below (HBA.out.trans (HB3.out.mono HBA.out.size)) HM1.out.size).setCell (.inl HX.out.own) _
    have HX4 := Lib.hid hx4
    have HM4 := Lib.hid hm4
    clear s3 z3 hl3 hx4 hm4 c2 hyl
    generalize w3.setCell ⟨y, 3, none⟩ (.slice (some ⟨g3, 0, none⟩) r.pages c3') = w4 at *
    have hba5 := below_al' (w := w4) (.cells #[] 38)
    have hx5 := HX4.out.below hba5
    have c1 := hx5.c1
    have hyl5 := hx5.blk.lt
    have HX5 := Lib.hid hx5
    have HBA5 := Lib.hid hba5
    clear hx5 hba5
    go_wp2_with
      (at_builtin
       refine wpList_copy_vec rfl (.tmp 27) (.tmp 31) _ rfl 24 _ rowsTy _ rfl (some ⟨gB, 0, none⟩) cB rfl HX5.out.rb HX5.out.rows_one (by unfold maxLen; omega) (by omega) ?_
       intro A6 c6 w6 hv6 hb6 ho6
       obtain ⟨g6, rfl⟩ := vec_at hv6 hp
       have hx6 := HX5.out.below hb6
       have s5 := hx6.c5
       have z5 := hx6.blk.frozen 5
       have hl6 := hx6.blk.lt
       have HX6 := Lib.hid hx6
       have HV6 := Lib.hid hv6
       have HB6 := Lib.hid hb6
       clear hv6 hb6 ho6 hx6)
    go_ret
    have hx7 := HX6.out.setCom HV6.out HX5.out.bl HX6.out.bv (new_far HX5.out.klt (Nat.le_refl _))
    have h45 : Below w4.heap.size w4 w6 := HBA5.out.trans (HB6.out.mono HBA5.out.size)
    have hm7 : Mods w.heap.size K w (w6.setCell ⟨y, 5, none⟩ (.slice (some ⟨g6, 0, none⟩) r.pages c6)) := (HM4.out.then_below h45 HM4.out.size).setCell (.inl HX.out.own) _
    have hs5 := HBA5.out.size
    have hs6 := HB6.out.size
    have hs3 := HB3.out.size
    have hs2 := HBA.out.size
    have hs1 := HM1.out.size
    have hs4 := HM4.out.size
    refine ⟨rfl, hm7, _, _, _, _, _, _, _, _, _, _, hx7.more (fun g hg => hg) (fun g hg => ?_) (fun g hg hj => ?_) hx7.klt (fun g hg => ?_)⟩
    · rcases hg with (hg | hg) | hg
      · exact .inl hg
      · exact .inr ⟨by have := hg.1; omega, hx7.jlt g (.inl (.inr hg))⟩
      · exact .inr ⟨by have := hg.1; omega, hx7.jlt g (.inr hg)⟩
    · rcases hj with hj | hj
      · exact HX.out.dis g hg hj
      · have := HX.out.klt g hg
        have := hj.1
        omega
    · rcases hg with hg | hg
      · exact hx7.jlt g (.inl (.inl hg))
      · exact hg.2
  · have hr2 : (root == -1) = false := by rw [beq_eq_false_iff_ne]; exact hr
    cases hu : r.used root with
    | false =>
      have HU2 : Hid (Calls Tryd.prog 44 #[.pointer (some ⟨y, 0, none⟩), .int .i64 root] w fun e w' => e = .returned (.bool false) ∧ w = w') := Lib.hid (hu ▸ HU.out)
      clear HU hu
      have HR := Lib.hid hr
      clear hr
      go_enter Tryd.func19, Tryd.ntmps19
      go_wp2_with fail
      refine HU2.out.mono ?_
      rintro e _ ⟨rfl, rfl⟩
      go_wp2_with fail
      go_ret
      exact .inl ⟨HR.out, trivial, rfl, rfl⟩
    | true =>
      have HU2 : Hid (Calls Tryd.prog 44 #[.pointer (some ⟨y, 0, none⟩), .int .i64 root] w fun e w' => e = .returned (.bool true) ∧ w = w') := Lib.hid (hu ▸ HU.out)
      clear HU hu
      have HR := Lib.hid hr
      clear hr
      go_enter Tryd.func19, Tryd.ntmps19
      go_wp2_with fail
      refine HU2.out.mono ?_
      rintro e _ ⟨rfl, rfl⟩
      go_upto_region 4 with fail
      have HX1 := Lib.hid (HX.out.setRoot root)
      have HM1 : Hid (Mods w.heap.size K w (w.setCell ⟨y, 4, none⟩ (.int .i64 root))) := Lib.hid ((Mods.refl w.heap.size K w).setCell (p := ⟨y, 4, none⟩) (.inl HX.out.own) _)
      clear c2 c4 z4 hyl
      generalize w.setCell ⟨y, 4, none⟩ (.int .i64 root) = w1 at *
      have hba2 := below_al' (w := w1) (.cells #[] 4)
      have hx2 := HX1.out.below hba2
      have c2 := hx2.c2
      have hyl := hx2.blk.lt
      have HX2 := Lib.hid hx2
      have HBA := Lib.hid hba2
      clear hx2 hba2
      go_upto_region 5 with
        (at_builtin
         refine wpList_copy_vec rfl (.tmp 18) (.tmp 22) _ rfl 1 _ boolTy _ rfl (some ⟨gU, 0, none⟩) cU rfl HX2.out.ru (bools_one _) (by unfold maxLen; omega) (by omega) ?_
         intro A3 c3' w3 hv3 hb3 ho3
         obtain ⟨g3, rfl⟩ := vec_at hv3 hp
         have hx3 := HX2.out.below hb3
         have s3 := hx3.c3
         have z3 := hx3.blk.frozen 3
         have hl3 := hx3.blk.lt
         have HX3 := Lib.hid hx3
         have HV3 := Lib.hid hv3
         have HB3 := Lib.hid hb3
         clear hv3 hb3 ho3 hx3)
      have hx4 := HX3.out.setWas HV3.out (new_far HX2.out.klt (Nat.le_refl _))
      have hm4 : Mods w.heap.size K w (w3.setCell ⟨y, 3, none⟩ (.slice (some ⟨g3, 0, none⟩) r.pages c3')) := (HM1.out.then_below (HBA.out.trans (HB3.out.mono HBA.out.size)) HM1.out.size).setCell (.inl HX.out.own) _
      have HX4 := Lib.hid hx4
      have HM4 := Lib.hid hm4
      clear s3 z3 hl3 hx4 hm4 c2 hyl
      generalize w3.setCell ⟨y, 3, none⟩ (.slice (some ⟨g3, 0, none⟩) r.pages c3') = w4 at *
      have hba5 := below_al' (w := w4) (.cells #[] 38)
      have hx5 := HX4.out.below hba5
      have c1 := hx5.c1
      have hyl5 := hx5.blk.lt
      have HX5 := Lib.hid hx5
      have HBA5 := Lib.hid hba5
      clear hx5 hba5
      go_wp2_with
        (at_builtin
         refine wpList_copy_vec rfl (.tmp 27) (.tmp 31) _ rfl 24 _ rowsTy _ rfl (some ⟨gB, 0, none⟩) cB rfl HX5.out.rb HX5.out.rows_one (by unfold maxLen; omega) (by omega) ?_
         intro A6 c6 w6 hv6 hb6 ho6
         obtain ⟨g6, rfl⟩ := vec_at hv6 hp
         have hx6 := HX5.out.below hb6
         have s5 := hx6.c5
         have z5 := hx6.blk.frozen 5
         have hl6 := hx6.blk.lt
         have HX6 := Lib.hid hx6
         have HV6 := Lib.hid hv6
         have HB6 := Lib.hid hb6
         clear hv6 hb6 ho6 hx6)
      go_ret
      have hx7 := HX6.out.setCom HV6.out HX5.out.bl HX6.out.bv (new_far HX5.out.klt (Nat.le_refl _))
      have h45 : Below w4.heap.size w4 w6 := HBA5.out.trans (HB6.out.mono HBA5.out.size)
      have hm7 : Mods w.heap.size K w (w6.setCell ⟨y, 5, none⟩ (.slice (some ⟨g6, 0, none⟩) r.pages c6)) := (HM4.out.then_below h45 HM4.out.size).setCell (.inl HX.out.own) _
      have hs5 := HBA5.out.size
      have hs6 := HB6.out.size
      have hs3 := HB3.out.size
      have hs2 := HBA.out.size
      have hs1 := HM1.out.size
      have hs4 := HM4.out.size
      refine ⟨rfl, hm7, _, _, _, _, _, _, _, _, _, _, hx7.more (fun g hg => hg) (fun g hg => ?_) (fun g hg hj => ?_) hx7.klt (fun g hg => ?_)⟩
      · rcases hg with (hg | hg) | hg
        · exact .inl hg
        · exact .inr ⟨by have := hg.1; omega, hx7.jlt g (.inl (.inr hg))⟩
        · exact .inr ⟨by have := hg.1; omega, hx7.jlt g (.inr hg)⟩
      · rcases hj with hj | hj
        · exact HX.out.dis g hg hj
        · have := HX.out.klt g hg
          have := hj.1
          omega
      · rcases hg with hg | hg
        · exact hx7.jlt g (.inl (.inl hg))
        · exact hg.2
end
end Go.Proofs.YtookhagpgkefpaaDoor.Pag
/- The reference's 'Put'. -/
namespace Go.Proofs.YtookhagpgkefpaaDoor.Pag
open Go Go.RowKit Mem Pl Disk Crc _root_.Go.Proofs.YtookhagpgkefpaaDoor.Frame
/-- 'append' onto a slice with no room: a copy of its own. -/
theorem wpList_append_copy {w : World} {ops : Array Oper} {rest : List Oper} {o : Oper} {a : Act} {Q : Exit → Act → World → Prop} (hgd : o.guard = none) (s x : Operand)
    (ho : o.op = .call { callee := .builtin .append, args := #[s, x], argTypes := #[38, 38] }) (A0 : Option Addr) (hs : a.eval s = .slice A0 0 0) (B : Option Addr) (m d : Nat) (bs : List UInt8) (hx : a.eval x = .slice B m d) (hb : BAt w B bs) (hm : bs.length = m) (hbytes : m ≤ 140737488355328)
    (h : ∀ v' w', ByJ w' (Grow (fun _ => False) w w') bs v' → Below w.heap.size w w' → wpList Tryd.prog ops Q rest (a.put o.dst v') w') : wpList Tryd.prog ops Q (o :: rest) a w := by
  have hv : Vec w (fun _ => False) 5 1 (.slice A0 0 0) 0 [] := Vec.nil_ _ _ _ _ _
  have fin : ∀ v' w' (row : Option Nat), Vec w' (Grow (fun _ => False) w w') 5 1 v' (0 + m) ([] ++ bs.map B8) → w.grownBy w' row → (row = none ∨ ∃ g cs, row = some g ∧ False ∧ w.heap[g]? = some (Obj.cells cs 5 (0, 0))) → wpList Tryd.prog ops Q rest (a.put o.dst v') w' := fun v' w' row h1 h2 h3 => by
    refine h v' w' ?_ ((Below.refl _ _).grown h2 (Nat.le_refl _) fun k hk => ?_)
    · unfold ByJ
      rw [hm]
      simpa using h1
    · rcases h3 with rfl | ⟨_, _, _, h, _⟩
      · cases hk
      · cases h
  cases B with
  | some ad =>
    refine wpList_append_vec hgd s x _ ho 1 _ bytTy hs hv ad m d (bs.map B8) hx (by simp [hm]) (fun j u hu => ?_) (B8_ones bs) (by unfold maxLen; omega) (by omega) fin
    have hj : j < bs.length := by have := (List.getElem?_eq_some_iff.1 hu).1; simpa using this
    obtain ⟨ad', hA, hc⟩ := hb (by omega)
    injection hA with hA
    subst hA
    rw [hc j hj]
    simp [hj] at hu
    rw [← hu]
    simp [hj, B8]
  | none =>
    have h0 : m = 0 := by
      rcases Nat.eq_zero_or_pos m with h | h
      · exact h
      · obtain ⟨_, hA, _⟩ := hb (by omega)
        cases hA
    subst h0
    have hbs : bs = [] := List.eq_nil_of_length_eq_zero hm
    subst hbs
    refine wpList_append_run hgd s x _ _ ho _ _ (.slice A0 0 0) w hs hx ?_ (fin _ _ none (Vec.nil_ _ _ _ _ _) (World.grownBy.refl w _) (.inl rfl))
    obtain ⟨i, hi, _⟩ := bytTy.info
    cases A0 <;> simp [Builtin.append_, run_underlying bytTy.ht, sizeOf, typeInfo, hi, Builtin.lenOf, Builtin.firstCells, loadCells, loadCellsFrom, storeCells]
/-- The first page that may be put. -/
def RM.ff (r : RM) : Option Nat := (List.range r.pages).find? r.free
def RM.put (r : RM) (b : List UInt8) : RM × Int × Int :=
  if 500 < b.length then (r, 0, 5) else match r.ff with
  | none => (r, 0, 3)
  | some p => ({ r with use := r.use.set p true, b := r.b.set p b }, p, 0)
theorem find_first {f : Nat → Bool} {n p : Nat} (hp : p < n) (hf : f p = true) (h : ∀ k, k < p → f k = false) : (List.range n).find? f = some p := by
  rw [List.find?_eq_some_iff_append]
  refine ⟨hf, List.range p, (List.range (n - p - 1)).map (· + (p + 1)), ?_, fun x hx => by rw [h x (List.mem_range.1 hx)]; rfl⟩
  refine List.ext_getElem (by simp; omega) fun i h1 h2 => ?_
  rcases Nat.lt_trichotomy i p with h3 | h3 | h3
  · rw [List.getElem_append_left (by simpa using h3)]
    simp
  · subst h3
    rw [List.getElem_append_right (by simp)]
    simp
  · rw [List.getElem_append_right (by simp; omega)]
    simp only [List.length_range, List.getElem_range]
    rw [List.getElem_cons, dif_neg (by omega)]
    simp
    omega
theorem find_none {f : Nat → Bool} {n : Nat} (h : ∀ k, k < n → f k = false) : (List.range n).find? f = none := by
  rw [List.find?_eq_none]
  intro x hx
  rw [h x (List.mem_range.1 hx)]
  decide
section
variable {w w' : World} {K J K' J' F : Nat → Prop} {y : Nat} {r : RM} {gB cB gU cU gW cW gC cC : Nat} {bs cs : List Value}
theorem RefC.setRow (x : RefC w K J y r gB cB gU cU gW cW gC cC bs cs) {k : Nat} {b : List UInt8} {v : Value} (hk : k < r.pages) (hb : ByJ w F b v) (hF : ∀ g, F g → ¬ K g ∧ g < w.heap.size) :
    RefC (w.setCell ⟨gB, k, none⟩ v) K (fun g => J g ∨ F g) y { r with b := r.b.set k b } gB cB gU cU gW cW gC cC (bs.set k v) cs := by
  obtain ⟨hK, cur, hB⟩ := x.rb.blockF x.pos
  have hm : Mods w.heap.size (fun g => g = gB) w (w.setCell ⟨gB, k, none⟩ v) := (Mods.refl w.heap.size (fun g => g = gB) w).setCell (p := ⟨gB, k, none⟩) (.inl rfl) _
  have hJ : ∀ g, g < w.heap.size → J g → g < w.heap.size ∧ ¬ g = gB := fun g hg hj => ⟨hg, fun e => x.dis g (e ▸ hK) hj⟩
  have hi : ∀ g, g < (w.setCell ⟨gB, k, none⟩ v).heap.size → J g → J g ∨ F g := fun g _ hg => .inl hg
  have hlb := x.bl
  have hlv : bs.length = r.pages := by have := x.rb.len; omega
  refine ⟨⟨x.pos, x.le, by simpa using x.bl, x.cl, x.rb.set k v, x.ru.far (p := ⟨gB, k, none⟩) hB (by decide) v, (x.rw_.mods hm hJ).mono hi, (x.rc.mods hm hJ).mono hi, fun j b' hj => ?_, (x.cv.mods hm hJ).mono hi, fun g hg hj => ?_, fun g hg => by simpa using x.klt g hg, fun g hg => ?_⟩,
    x.blk.far (p := ⟨gB, k, none⟩) (x.blk.ne_ (t' := 38) hB (by decide)) _, x.own⟩
  · by_cases he : j = k
    · subst he
      rw [List.getElem?_set_self (by omega)] at hj
      injection hj with hj
      subst hj
      exact ⟨v, List.getElem?_set_self (by omega), (Vec.far (show Vec w F _ _ _ _ _ from hb) (p := ⟨gB, j, none⟩) hB (by decide) v).mono fun g _ hg => .inr hg⟩
    · rw [List.getElem?_set_ne (by omega)] at hj
      obtain ⟨v', h1, h2⟩ := x.bv j b' hj
      exact ⟨v', by rw [List.getElem?_set_ne (by omega)]; exact h1, (Vec.mods h2 hm hJ).mono hi⟩
  · rcases hj with hj | hj
    · exact x.dis g hg hj
    · exact (hF g hj).1 hg
  · rcases hg with hg | hg
    · simpa using x.jlt g hg
    · simpa using (hF g hg).2
def RPutR (w : World) (r : RM) (iv : Value) (wr : World) : Prop := ∃ i : Nat, i ≤ r.pages ∧ iv = .int .i64 (i : Int) ∧ (∀ k, k < i → r.free k = false) ∧ w = wr
set_option maxRecDepth 100000 in
set_option maxHeartbeats 4000000 in
theorem rput_any (x : RefP w K J y r) (A : Option Addr) (L cap : Nat) (b : List UInt8) (hb : BAt w A b) (hl : b.length = L) (hLm : L ≤ 9223372036854775807) (hA : ∀ ad, A = some ad → 0 < L → ad.block < w.heap.size ∧ ¬ K ad.block) :
    Calls Tryd.prog 15 #[.pointer (some ⟨y, 0, none⟩), .slice A L cap] w fun e w' =>
      e = .returned (.tuple #[.int .i64 (r.put b).2.1, .int .i64 (r.put b).2.2]) ∧ Mods w.heap.size K w w' ∧ RefP w' K (Grow J w w') y (r.put b).1 := by
  obtain ⟨gB, cB, gU, cU, gW, cW, gC, cC, bs, cs, x⟩ := x
  have c0 := x.c0
  have c2 := x.c2
  have c3 := x.c3
  have hle := x.le
  have hp := x.pos
  have HX := Lib.hid x
  have HB := Lib.hid hb
  have HL := Lib.hid hl
  have HA := Lib.hid hA
  have HID : Hid (∀ P : RM, RefC w K J y P gB cB gU cU gW cW gC cC bs cs → RefP w K (Grow J w w) y P) := Lib.hid fun P h => ⟨_, _, _, _, _, _, _, _, _, _, h.more (fun g hg => hg) (fun g hg => .inl hg) (fun g hg hj => hj.elim (h.dis g hg) fun hj => by omega) h.klt fun g hg => hg.elim (h.jlt g) fun hj => hj.2⟩
  clear x hb hA
  by_cases h5 : 500 < L
  · have h5I : (500 : Int) < (L : Int) := by omega
    have e : r.put b = (r, 0, 5) := by unfold RM.put; rw [if_pos (by omega)]
    rw [e]
    clear e hl
    go_enter Tryd.func15, Tryd.ntmps15
    go_wp2_with fail
    go_ret2
    exact ⟨rfl, Mods.refl _ _ _, HID.out _ HX.out⟩
  · have h5I : ¬ (500 : Int) < (L : Int) := by omega
    have HP1 : Hid (∀ p, p < r.pages → r.free p = true → (∀ k, k < p → r.free k = false) → r.put b = ({ r with use := r.use.set p true, b := r.b.set p b }, (p : Int), (0 : Int))) := Lib.hid fun p h1 h2 h3 => by
      unfold RM.put RM.ff
      rw [if_neg (by omega), find_first h1 h2 h3]
    have HP2 : Hid ((∀ k, k < r.pages → r.free k = false) → r.put b = (r, 0, 3)) := Lib.hid fun h3 => by
      unfold RM.put RM.ff
      rw [if_neg (by omega), find_none h3]
    clear hl
    go_enter Tryd.func15, Tryd.ntmps15
    go_wp2_with fail
    go_loopw [6] (fun iv wr => RPutR w r iv wr) (fun iv _ => r.pages - (intOf iv).toNat)
    case atStart => exact ⟨0, by omega, rfl, fun k hk => by omega, rfl⟩
    case round =>
      obtain ⟨i, hi, rfl, hfst, rfl⟩ := hrel
      have HFST := Lib.hid hfst
      clear hfst
      by_cases hlt : i < r.pages
      · have hiI : (i : Int) < (r.pages : Int) := by omega
        have hu := HX.out.useAt hlt
        have hw := HX.out.wasAt hlt
        cases hu0 : r.use.getD i false with
        | true =>
          rw [hu0] at hu
          have HF := Lib.hid (show r.free i = false by unfold RM.free; rw [hu0]; rfl)
          clear hu0
          go_wp2_with fail
          go_roundw
          case rel => exact ⟨i + 1, by omega, by simp, fun k hk => by rcases Nat.lt_or_ge k i with h | h; exact HFST.out k h; obtain rfl : k = i := by omega
                                                                      exact HF.out, rfl⟩
          case measure => simp [intOf]; omega
        | false =>
          rw [hu0] at hu
          cases hw0 : r.was.getD i false with
          | true =>
            rw [hw0] at hw
            have HF := Lib.hid (show r.free i = false by unfold RM.free; rw [hu0, hw0]; rfl)
            clear hu0 hw0
            go_wp2_with fail
            go_roundw
            case rel => exact ⟨i + 1, by omega, by simp, fun k hk => by rcases Nat.lt_or_ge k i with h | h; exact HFST.out k h; obtain rfl : k = i := by omega
                                                                        exact HF.out, rfl⟩
            case measure => simp [intOf]; omega
          | false =>
            rw [hw0] at hw
            have HF := Lib.hid (show r.free i = true by unfold RM.free; rw [hu0, hw0]; rfl)
            clear hu0 hw0
            have zu := HX.out.ru.free hp i
            go_upto_region 8 with fail
            have HX1 := Lib.hid (HX.out.setU i true)
            have HM1 : Hid (Mods w.heap.size K w (w.setCell ⟨gU, i, none⟩ (.bool true))) := Lib.hid (HX.out.modsU i (.bool true))
            have HB1 : Hid (BAt (w.setCell ⟨gU, i, none⟩ (.bool true)) A b) := Lib.hid (HB.out.keep fun ad k u hA hk hc => by
              obtain ⟨h1, h2⟩ := HA.out ad hA (by have := HL.out; omega)
              have := HM1.out.keep ad.block h1 h2
              simp only [World.cell?, addr_block] at hc ⊢
              rw [this]
              exact hc)
            clear c0 c2 c3 hu hw zu
            generalize w.setCell ⟨gU, i, none⟩ (.bool true) = w1 at *
            have c1 := HX1.out.c1
            have hyl := HX1.out.blk.lt
            refine Ord.region_ord [7] [0, 1, 2, 3, 4, 6, 5, 7, 8, 9] (by kernel_rfl) (by kernel_rfl) (by kernel_rfl) (by kernel_rfl) (Ord.ord_run [0, 1, 2, 3, 4, 6, 5] [_, _, _, _, _, _, _] rfl (by kernel_rfl) ?_)
            go_wp2_with fail
            refine Ord.nx_ord (Ord.ord_one rfl ?_)
            have hba : Below w1.heap.size w1 (w1.drew.alloc (.cells #[] 5)) := Below.trans (show Below w1.heap.size w1 w1.drew from below_drewN (Below.refl _ _) 1) (show Below w1.heap.size w1.drew _ from below_al' (w := w1.drew) _)
            have HBA := Lib.hid hba
            have HB2 := Lib.hid (HB1.out.below hba)
            clear hba
            go_wp2_with
              (refine wpList_append_copy rfl (.tmp 47) (.tmp 48) rfl _ rfl A L cap b rfl HB2.out HL.out (by omega) ?_
               intro v0 w7 hv7 hb7
               obtain ⟨A7, c7, rfl⟩ := Vec.shape hv7
               have HV7 := Lib.hid hv7
               have HB7 := Lib.hid hb7
               clear hv7 hb7)
            refine Ord.nx_and HB7.out (Ord.ord_all [_, _] rfl (by kernel_rfl) ?_)
            have h17 : Below w1.heap.size w1 w7 := HBA.out.trans ((show Below (w1.drew.alloc (.cells #[] 5)).heap.size (w1.drew.alloc (.cells #[] 5)) w7 from HB7.out).mono HBA.out.size)
            have hx7 := HX1.out.below h17
            obtain ⟨vb, hvb⟩ : ∃ v, bs[i]? = some v := ⟨_, List.getElem?_eq_getElem (by have := hx7.rb.len; have := hx7.bl; simp at *; omega)⟩
            have cb := hx7.rb.at_ hvb
            have zb := hx7.rb.free hx7.pos i
            have hbl := (show w7.heap.size = w7.heap.size from rfl)
            have HX7 := Lib.hid hx7
            have H17 := Lib.hid h17
            clear hx7 h17 c1 hyl hvb
            go_wp2_with fail
            refine Ord.nx_end ?_
            go_wp2_with fail
            go_ret2
            rw [HP1.out i hlt HF.out HFST.out]
            have hs1 := HBA.out.size
            have hs2 := HM1.out.size
            have hs7 := HB7.out.size
            have hs0 : (w1.drew.alloc (.cells #[] 5)).heap.size = (w1.alloc (.cells #[] 5)).drew.heap.size := rfl
            have hx8 := HX7.out.setRow (k := i) hlt (show ByJ w7 _ b _ from HV7.out) (fun g hg => hg.elim False.elim fun hg => ⟨fun hk => by have := HX1.out.klt g hk; have := hg.1; omega, hg.2⟩)
            refine ⟨rfl, (HM1.out.then_below H17.out HM1.out.size).setCell (.inl (HX.out.rb.blockF hp).1) _, _, _, _, _, _, _, _, _, _, _, hx8.more (fun g hg => hg) (fun g hg => ?_) (fun g hg hj => ?_) hx8.klt (fun g hg => ?_)⟩
            · rcases hg with hg | hg | hg
              · exact .inl hg
              · exact hg.elim
              · exact .inr ⟨by have := hg.1; omega, hx8.jlt g (.inr (.inr hg))⟩
            · rcases hj with hj | hj
              · exact HX.out.dis g hg hj
              · have := HX.out.klt g hg
                have := hj.1
                omega
            · rcases hg with hg | hg
              · exact hx8.jlt g (.inl hg)
              · exact hg.2
      · obtain rfl : r.pages = i := by omega
        go_wp2_with fail
        go_ret2
        rw [HP2.out HFST.out]
        exact ⟨rfl, Mods.refl _ _ _, HID.out _ HX.out⟩
end
end Go.Proofs.YtookhagpgkefpaaDoor.Pag
/- The law's 'kind' and 'alike': a pager and the reference's agree. -/
namespace Go.Proofs.YtookhagpgkefpaaDoor.Pag
open Go Go.RowKit Mem Pl Disk Crc _root_.Go.Proofs.YtookhagpgkefpaaDoor.Frame
theorem al_strTy : Tryd.prog.underlying 9 = some .string := Tryd.underlying9
/-- The reference says of each page what the pager says. -/
structure RSim (r : RM) (m : PgM) (T C : Nat → List UInt8) : Prop where
  pages : r.pages = m.pages
  root : r.root = m.root
  use : ∀ k, k < m.pages → r.use.getD k false = hasB m.use k
  was : ∀ k, k < m.pages → r.was.getD k false = hasB m.was k
  txt : ∀ k, k < m.pages → hasB m.use k = true → r.b.getD k [] = T k
  com : ∀ k, k < m.pages → hasB m.was k = true → r.com.getD k [] = C k
  len : ∀ b ∈ r.b, b.length ≤ 100000000
  clen : ∀ b ∈ r.com, b.length ≤ 100000000
  ul : r.use.length = r.pages
  wl : r.was.length = r.pages
  bl : r.b.length = r.pages
  cl : r.com.length = r.pages
def kindM (z : Int) : Nat := ((if z < 0 then -(z + 1) else z).toNat) % 10
theorem kindM_lt (z : Int) : kindM z < 10 := Nat.mod_lt _ (by omega)
theorem kind_any (w : World) (z : Int) (hz : -9223372036854775808 ≤ z ∧ z < 9223372036854775808) : Calls Tryd.prog 13 #[.int .i64 z] w fun e w' => e = .returned (.int .i64 (kindM z : Int)) ∧ w = w' := by
  obtain ⟨hz1, hz2⟩ := hz
  by_cases h : z < 0
  · obtain ⟨q, hq⟩ : ∃ q, kindM z = q := ⟨_, rfl⟩
    have hw1 : IntKind.i64.wrap (z + 1) = z + 1 := IntWalk.i64_in _ (by omega)
    have hw2 : IntKind.i64.wrap (-(z + 1)) = -(z + 1) := IntWalk.i64_in _ (by omega)
    have hk : (-(z + 1)) % 10 = (q : Int) := by rw [← hq]; unfold kindM; rw [if_pos h]; omega
    have hk2 : Int.tmod (-(z + 1)) 10 = (q : Int) := by rw [Int.tmod_eq_emod_of_nonneg (by omega)]; exact hk
    rw [hq]
    clear hq
    go_enter Tryd.func13, Tryd.ntmps13
    go_wp2_with fail
    go_ret
    exact ⟨by first | rfl | (simp; first | rfl | omega), rfl⟩
  · obtain ⟨q, rfl⟩ := Int.eq_ofNat_of_zero_le (show 0 ≤ z by omega)
    obtain ⟨k, hk0⟩ : ∃ k, kindM (q : Int) = k := ⟨_, rfl⟩
    have hk : (q : Int) % 10 = (k : Int) := by rw [← hk0]; unfold kindM; rw [if_neg h]; omega
    rw [hk0]
    clear hk0
    go_enter Tryd.func13, Tryd.ntmps13
    go_wp2_with fail
    go_ret
    exact ⟨by first | rfl | (simp; first | rfl | omega), rfl⟩
section
variable {r : RM} {m : PgM} {T C : Nat → List UInt8}
theorem RSim.used (h : RSim r m T C) (p : Int) : r.used p = m.inUse p := by
  unfold RM.used PgM.inUse
  rw [h.pages]
  by_cases h0 : 0 ≤ p
  · by_cases h1 : p < (m.pages : Int)
    · rw [h.use p.toNat (by omega)]
    · simp [h1]
  · simp [h0]
theorem RSim.free (h : RSim r m T C) (k : Nat) (hk : k < m.pages) : r.free k = m.free k := by
  unfold RM.free PgM.free
  rw [h.use k hk, h.was k hk]
theorem RSim.room (h : RSim r m T C) : r.room r.pages = m.room m.pages := by
  unfold RM.room PgM.room
  rw [h.pages]
  exact List.countP_congr fun k hk => by rw [h.free k (List.mem_range.1 hk)]
end
theorem RSim.read {w : World} {K J : Nat → Prop} {y : Nat} {r : RM} {m : PgM} {T C : Nat → List UInt8} (h : RSim r m T C) (ry : RefP w K J y r) (p : Int) : Calls Tryd.prog 48 #[.pointer (some ⟨y, 0, none⟩), .int .i64 p] w fun e w' =>
    ∃ A c, e = .returned (.tuple #[.slice A (if m.inUse p then T p.toNat else []).length c, .int .i64 (if m.inUse p then 0 else 90)]) ∧ BAt w' A (if m.inUse p then T p.toNat else []) ∧ Below w.heap.size w w' := by
  refine (rread_any ry h.len p).mono ?_
  rintro e w' ⟨hb, ⟨hu, rfl⟩ | ⟨b, A, c, hu, hbp, rfl, hat⟩⟩
  · rw [h.used] at hu
    rw [hu]
    exact ⟨none, 0, rfl, BAt.nil_ _ _, hb⟩
  · rw [h.used] at hu
    obtain ⟨k, rfl, hk, hh⟩ := inUse_nat hu
    have ht := h.txt k hk hh
    rw [Int.toNat_natCast] at hbp
    rw [List.getD_eq_getElem?_getD, hbp] at ht
    have ht' : b = T k := ht
    subst ht'
    rw [hu]
    exact ⟨A, c, rfl, hat, hb⟩
/-- The walk's own numbers: a page and what may be asked of it. -/
def AlR (w : World) (iv : Value) (wr : World) (n : Nat) : Prop := ∃ q : Nat, q ≤ n + 2 ∧ q ≤ 41 ∧ iv = .int .i64 ((q : Int) - 1) ∧ Below w.heap.size w wr
set_option maxRecDepth 100000 in
set_option maxHeartbeats 4000000 in
theorem alike_any {B : Nat} {w : World} {Kp K J : Nat → Prop} {a : Nat} {pm : PM} {n dev N : Nat} {H : List (List UInt8)} {ws : Ws} {g y : Nat} {m : PgM} {T C : Nat → List UInt8} {r : RM} (x : Pg1 B w Kp a pm n dev N H ws g m) (hi : Inv N H ws m T C) (hB : B ≤ w.heap.size) (hn : n ≤ 800000000) (hon : pm.off = false) (ht : TabB B w)
    (ry : RefP w K J y r) (hs : RSim r m T C) :
    Calls Tryd.prog 21 #[.pointer (some ⟨g, 0, none⟩), .pointer (some ⟨y, 0, none⟩)] w fun e w' => e = .returned (.bool true) ∧ Below w.heap.size w w' := by
  have HX := Lib.hid x
  have HI := Lib.hid hi
  have HON := Lib.hid hon
  have HT := Lib.hid ht
  have HY := Lib.hid ry
  have HS := Lib.hid hs
  have HRT := Lib.hid x.root
  have HRM := Lib.hid x.room
  have HYT : Hid (Calls Tryd.prog 46 #[.pointer (some ⟨y, 0, none⟩)] w fun e w' => e = .returned (.int .i64 m.root) ∧ w = w') := Lib.hid (hs.root ▸ rroot_any ry)
  have HYM : Hid (Calls Tryd.prog 47 #[.pointer (some ⟨y, 0, none⟩)] w fun e w' => e = .returned (.int .i64 (m.room m.pages : Int)) ∧ w = w') := Lib.hid (hs.room ▸ rroom_any ry)
  have h384 : m.pages ≤ 384 := by
    obtain ⟨_, _, _, _, _, _, _, _, _, _, h⟩ := ry
    rw [← hs.pages]
    exact h.le
  clear x hi hon ht ry hs
  go_enter Tryd.func21, Tryd.ntmps21
  go_wp2_with fail
  refine HRT.out.mono ?_
  rintro e _ ⟨rfl, rfl⟩
  go_wp2_with fail
  refine HYT.out.mono ?_
  rintro e _ ⟨rfl, rfl⟩
  go_wp2_with fail
  refine HRM.out.mono ?_
  rintro e _ ⟨rfl, rfl⟩
  go_wp2_with fail
  refine HYM.out.mono ?_
  rintro e _ ⟨rfl, rfl⟩
  go_wp2_with fail
  go_loopw [5] (fun iv wr => AlR w iv wr m.pages) (fun iv _ => (41 - intOf iv).toNat)
  case atStart => exact ⟨0, by omega, by omega, rfl, Below.refl _ _⟩
  case round =>
    obtain ⟨q, hq, hq2, rfl, hbw⟩ := hrel
    have hy0 : wr.cell? ⟨y, 0, none⟩ = some (.int .i64 (m.pages : Int)) := by
      obtain ⟨_, _, _, _, _, _, _, _, _, _, h⟩ := HY.out.below hbw
      rw [← HS.out.pages]
      exact h.c0
    have HBW := Lib.hid hbw
    clear hbw
    by_cases hgo : q ≤ m.pages + 1 ∧ q < 41
    · obtain ⟨h1, h2⟩ := hgo
      have h1I : (q : Int) - 1 ≤ (m.pages : Int) := by omega
      have h2I : (q : Int) - 1 < 40 := by omega
      have hw1 : IntKind.i64.wrap ((q : Int) - 1 + 1) = (q : Int) := by rw [Int.sub_add_cancel]; exact IntWalk.i64_in _ (by omega)
      have HRD := Lib.hid ((HX.out.below HBW.out).read HI.out (Nat.le_trans hB HBW.out.size) hn HON.out (HT.out.below HBW.out hB) ((q : Int) - 1))
      obtain ⟨tb, htb⟩ : ∃ tb, (if m.inUse ((q : Int) - 1) then T ((q : Int) - 1).toNat else []) = tb := ⟨_, rfl⟩
      obtain ⟨ec, hec⟩ : ∃ ec : Int, (if m.inUse ((q : Int) - 1) then 0 else 90) = ec := ⟨_, rfl⟩
      have HRF : Hid (∀ w', Below w.heap.size w w' → Calls Tryd.prog 48 #[.pointer (some ⟨y, 0, none⟩), .int .i64 ((q : Int) - 1)] w' fun e w2 =>
          ∃ A c, e = .returned (.tuple #[.slice A tb.length c, .int .i64 ec]) ∧ BAt w2 A tb ∧ Below w'.heap.size w' w2) := Lib.hid fun w' hb => by
        rw [← htb, ← hec]
        exact HS.out.read (HY.out.below hb) _
      have hrd := HRD.out
      rw [htb, hec] at hrd
      have HRE := Lib.hid hrd
      have HQ := Lib.hid (show q ≤ m.pages + 1 ∧ q < 41 from ⟨h1, h2⟩)
      clear hrd HRD htb hec h1 h2 hq hq2
      go_wp2_with fail
      refine HRE.out.mono ?_
      rintro e wa ⟨A, kk, ca, rfl, ho, hba⟩
      have HBA := Lib.hid (HBW.out.trans (hba.mono HBW.out.size))
      have HRF2 := Lib.hid (HRF.out wa HBA.out)
      have HO := Lib.hid ho
      clear ho hba hy0
      go_wp2_with fail
      refine HRF2.out.mono ?_
      rintro e wb ⟨A2, c2, rfl, hat, hbb⟩
      have HBB := Lib.hid (HBA.out.trans (hbb.mono HBA.out.size))
      have k3 := run_toString (P := Tryd.prog) (w := wb) (ts := 9) Pl.byteTy al_strTy ca (HO.out.bat.below hbb) HO.out.len
      have k4 := run_toString (P := Tryd.prog) (w := wb) (ts := 9) Pl.byteTy al_strTy c2 hat rfl
      generalize (⟨tb.toArray⟩ : ByteArray) = S at k3 k4
      clear hat hbb HRE HRF HRF2
      go_wp2_with fail
      go_roundw
      case rel => exact ⟨q + 1, by have := HQ.out.1; omega, by have := HQ.out.2; omega, by simp, HBB.out⟩
      case measure => have := HQ.out.2; simp [intOf]; omega
    · have hend : Hid (Below w.heap.size w wr) := HBW
      by_cases hp : q ≤ m.pages + 1
      · have h1I : (q : Int) - 1 ≤ (m.pages : Int) := by omega
        have h2I : ¬ (q : Int) - 1 < 40 := by omega
        clear hgo
        go_wp2_with fail
        go_ret
        exact ⟨rfl, hend.out⟩
      · have h1I : ¬ (q : Int) - 1 ≤ (m.pages : Int) := by omega
        clear hgo
        go_wp2_with fail
        go_ret
        exact ⟨rfl, hend.out⟩
end Go.Proofs.YtookhagpgkefpaaDoor.Pag
/- The plain law of the pager beside the reference: each call keeps them alike. No program in sight. -/
namespace Go.Proofs.YtookhagpgkefpaaDoor.Pag
open Go Go.RowKit Mem Pl Disk Crc _root_.Go.Proofs.YtookhagpgkefpaaDoor.Frame
variable {r : RM} {m : PgM} {T C : Nat → List UInt8} {N : Nat} {H : List (List UInt8)} {ws : Ws}
theorem getD_set {α : Type} (l : List α) (k q : Nat) (v d : α) (hk : k < l.length) : (l.set k v).getD q d = if q = k then v else l.getD q d := by
  by_cases h : q = k
  · subst h
    rw [if_pos rfl, List.getD_eq_getElem?_getD, List.getElem?_set_self hk]
    rfl
  · rw [if_neg h, List.getD_eq_getElem?_getD, List.getElem?_set_ne (by omega), ← List.getD_eq_getElem?_getD]
theorem RSim.ff (h : RSim r m T C) : r.ff = ffree m := by
  unfold RM.ff ffree
  rw [h.pages]
  have : ∀ l : List Nat, (∀ k ∈ l, k < m.pages) → l.find? r.free = l.find? m.free := fun l => by
    induction l with
    | nil => intro _; rfl
    | cons a l ih =>
      intro hl
      rw [List.find?_cons, List.find?_cons, h.free a (hl a (by simp)), ih fun k hk => hl k (by simp [hk])]
  exact this _ fun k hk => List.mem_range.1 hk
theorem RSim.put (h : RSim r m T C) (ul : m.use.length = 48) (h384 : m.pages ≤ 384) (b : List UInt8) (hb : b.length ≤ 100000000) :
    (r.put b).2 = (putM m T b).2.2 ∧ RSim (r.put b).1 (putM m T b).1 (putM m T b).2.1 C := by
  unfold RM.put putM
  by_cases h5 : 500 < b.length
  · rw [if_pos h5, if_pos h5]
    exact ⟨rfl, h⟩
  · rw [if_neg h5, if_neg h5, h.ff]
    cases hf : ffree m with
    | none => exact ⟨rfl, h⟩
    | some p =>
      obtain ⟨hp, hfr⟩ := ffree_spec hf
      have hpr : p < r.pages := by rw [h.pages]; exact hp
      have hu := fun q => setB_has (use := m.use) (page := p) (q := q) (by omega) true
      refine ⟨rfl, h.pages, h.root, fun k hk => ?_, h.was, fun k hk hh => ?_, h.com, fun x hx => ?_, h.clen, by simpa using h.ul, h.wl, by simpa using h.bl, h.cl⟩
      · show (r.use.set p true).getD k false = hasB (setB m.use p true) k
        rw [hu, getD_set _ _ _ _ _ (by rw [h.ul]; exact hpr), h.use k hk]
      · show (r.b.set p b).getD k [] = if k = p then b else T k
        have hh' : hasB (setB m.use p true) k = true := hh
        rw [hu] at hh'
        rw [getD_set _ _ _ _ _ (by rw [h.bl]; exact hpr)]
        by_cases he : k = p
        · rw [if_pos he, if_pos he]
        · rw [if_neg he] at hh'
          rw [if_neg he, if_neg he]
          exact h.txt k hk hh'
      · rcases List.mem_or_eq_of_mem_set hx with hx | rfl
        · exact h.len x hx
        · exact hb
def freeR (r : RM) (p : Int) : RM := if r.used p then r.freed p.toNat else r
theorem RSim.freed (h : RSim r m T C) (ul : m.use.length = 48) (h384 : m.pages ≤ 384) (p : Int) : RSim (freeR r p) (freeM m p).1 T C := by
  unfold freeR freeM
  rw [h.used]
  cases hu : m.inUse p with
  | false => exact h
  | true =>
    obtain ⟨k, rfl, hk, _⟩ := inUse_nat hu
    have hkr : k < r.pages := by rw [h.pages]; exact hk
    have hs := fun q => setB_has (use := m.use) (page := k) (q := q) (by omega) false
    refine ⟨h.pages, h.root, fun q hq => ?_, h.was, fun q hq hh => ?_, h.com, h.len, h.clen, by show (r.use.set _ _).length = r.pages; simpa using h.ul, h.wl, h.bl, h.cl⟩
    · show (r.use.set (k : Int).toNat false).getD q false = hasB (setB m.use (k : Int).toNat false) q
      rw [Int.toNat_natCast, hs, getD_set _ _ _ _ _ (by rw [h.ul]; exact hkr), h.use q hq]
    · have hh' : hasB (setB m.use (k : Int).toNat false) q = true := hh
      rw [Int.toNat_natCast, hs] at hh'
      by_cases he : q = k
      · rw [if_pos he] at hh'
        cases hh'
      · rw [if_neg he] at hh'
        exact h.txt q hq hh'
theorem RSim.committed (h : RSim r m T C) (root : Int) : RSim (r.commit root) (m.commit root) T T :=
  ⟨h.pages, rfl, h.use, h.use, h.txt, h.txt, h.len, h.len, h.ul, h.ul, h.bl, h.bl⟩
theorem RSim.dropped (h : RSim r m T C) : RSim r.drop m.drop C C :=
  ⟨h.pages, h.root, h.was, h.was, h.com, h.com, h.clen, h.clen, h.wl, h.wl, h.cl, h.cl⟩
theorem RSim.may (h : RSim r m T C) (root : Int) : (root = -1 ∨ r.used root = true) ↔ m.rootMay root = true := by
  rw [h.used]
  unfold PgM.rootMay
  simp
/-- A pager made anew, on both sides. -/
def newR (n : Nat) : RM := ⟨n, List.replicate n [], List.replicate n false, List.replicate n false, -1, List.replicate n []⟩
theorem RSim.new (n : Nat) : RSim (newR n) (pgNew n) (fun _ => []) (fun _ => []) := by
  have hu : ∀ k, hasB no48 k = false := hasB_no48
  have hg : ∀ {α : Type} (k : Nat) (d : α), (List.replicate n d).getD k d = d := fun k d => by
    rw [List.getD_eq_getElem?_getD, List.getElem?_replicate]
    split <;> rfl
  refine ⟨rfl, rfl, fun k _ => ?_, fun k _ => ?_, fun k _ _ => hg k [], fun k _ _ => hg k [], fun b hb => ?_, fun b hb => ?_, by simp [newR], by simp [newR], by simp [newR], by simp [newR]⟩
  · exact (hg k false).trans (hu k).symm
  · exact (hg k false).trans (hu k).symm
  · rw [(List.mem_replicate.1 hb).2]; simp
  · rw [(List.mem_replicate.1 hb).2]; simp
end Go.Proofs.YtookhagpgkefpaaDoor.Pag
/- A pager and the reference side by side in a law's hands: what one writes leaves the other. -/
namespace Go.Proofs.YtookhagpgkefpaaDoor.Pag
open Go Go.RowKit Mem Pl Disk Crc _root_.Go.Proofs.YtookhagpgkefpaaDoor.Frame
/-- The reference beside a pager that lies in Kp. -/
structure Beside (B : Nat) (w : World) (Kp K J : Nat → Prop) (y : Nat) (r : RM) : Prop where
  ref : RefP w K J y r
  sep : ∀ g, Kp g → ¬ K g ∧ ¬ J g
  lo : ∀ g, K g ∨ J g → B ≤ g
section
variable {B : Nat} {w w' : World} {Kp K J K' J' : Nat → Prop} {y : Nat} {r r' : RM}
theorem RefP.lt (x : RefP w K J y r) : (∀ g, K g → g < w.heap.size) ∧ ∀ g, J g → g < w.heap.size := by
  obtain ⟨_, _, _, _, _, _, _, _, _, _, h⟩ := x
  exact ⟨h.klt, h.jlt⟩
/-- The pager writes. -/
theorem Beside.pager (x : Beside B w Kp K J y r) (hm : Mods w.heap.size Kp w w') : Beside B w' (Grow Kp w w') K J y r := by
  obtain ⟨hk, hj⟩ := x.ref.lt
  refine ⟨x.ref.mods hm (fun g hg hK => ⟨hg, fun hp => (x.sep g hp).1 hK⟩) (fun g hg hJ => ⟨hg, fun hp => (x.sep g hp).2 hJ⟩), fun g hg => ?_, x.lo⟩
  rcases hg with hg | hg
  · exact x.sep g hg
  · exact ⟨fun h => by have := hk g h; have := hg.1; omega, fun h => by have := hj g h; have := hg.1; omega⟩
theorem Beside.below (x : Beside B w Kp K J y r) (hb : Below w.heap.size w w') : Beside B w' Kp K J y r := ⟨x.ref.below hb, x.sep, x.lo⟩
/-- The reference writes; its blocks grow by new ones. -/
theorem Beside.ours {pm : PM} {a n dev N g : Nat} {H : List (List UInt8)} {ws : Ws} {m : PgM} (x : Beside B w Kp K J y r) (p : Pg1 B w Kp a pm n dev N H ws g m) (hB : B ≤ w.heap.size) (hm : Mods w.heap.size K w w') (hr : RefP w' K' J' y r') (hK : ∀ g, K' g → K g ∨ w.heap.size ≤ g) (hJ : ∀ g, J' g → J g ∨ w.heap.size ≤ g) :
    Beside B w' Kp K' J' y r' ∧ Pg1 B w' Kp a pm n dev N H ws g m := by
  refine ⟨⟨hr, fun g hg => ⟨fun h => ?_, fun h => ?_⟩, fun g hg => ?_⟩, p.off_ hm (Nat.le_refl _) fun k hk hp => (x.sep k hp).1 hk⟩
  · rcases hK g h with h | h
    · exact (x.sep g hg).1 h
    · have := (p.lt g hg).2
      omega
  · rcases hJ g h with h | h
    · exact (x.sep g hg).2 h
    · have := (p.lt g hg).2
      omega
  · rcases hg with h | h
    · rcases hK g h with h | h
      · exact x.lo g (.inl h)
      · omega
    · rcases hJ g h with h | h
      · exact x.lo g (.inr h)
      · omega
end
end Go.Proofs.YtookhagpgkefpaaDoor.Pag
/- Pages put one behind the other: what each is. No program. -/
namespace Go.Proofs.YtookhagpgkefpaaDoor.Pag
open Go Go.RowKit Mem Pl Disk Crc _root_.Go.Proofs.YtookhagpgkefpaaDoor.Frame
/-- How many of the first k rows fit into a page. -/
def fitN (l : List (List UInt8)) (k : Nat) : Nat := (l.take k).countP fun b => decide (b.length ≤ 500)
theorem fitN_next {l : List (List UInt8)} {k : Nat} {b : List UInt8} (h : l[k]? = some b) : fitN l (k + 1) = fitN l k + if b.length ≤ 500 then 1 else 0 := by
  obtain ⟨hk, e⟩ := List.getElem?_eq_some_iff.1 h
  unfold fitN
  rw [List.take_succ_eq_append_getElem hk, e, List.countP_append, List.countP_singleton]
  simp
theorem fitN_le (l : List (List UInt8)) (k : Nat) : fitN l k ≤ k := by
  have := List.countP_le_length (p := fun b : List UInt8 => decide (b.length ≤ 500)) (l := l.take k)
  rw [List.length_take] at this
  unfold fitN
  omega
/-- What 'Put' of row j answered, or -1. -/
def atOf (l : List (List UInt8)) (j : Nat) : Int := if (l.getD j []).length ≤ 500 then (fitN l j : Int) else -1
def atsOf (l : List (List UInt8)) (k : Nat) : List Int := (List.range k).map (atOf l)
theorem atsOf_len (l : List (List UInt8)) (k : Nat) : (atsOf l k).length = k := by simp [atsOf]
theorem atsOf_next (l : List (List UInt8)) (k : Nat) : atsOf l k ++ [atOf l k] = atsOf l (k + 1) := by unfold atsOf; rw [List.range_succ]; simp
theorem atsOf_get (l : List (List UInt8)) {k j : Nat} (h : j < k) : (atsOf l k)[j]? = some (atOf l j) := by unfold atsOf; simp [h]
/-- Just the first c pages are in use, none was committed. -/
structure FirstC (m : PgM) (c : Nat) : Prop where
  use : ∀ p, hasB m.use p = decide (p < c)
  was : ∀ p, hasB m.was p = true → p < c
theorem FirstC.ffree_ {m : PgM} {c : Nat} (h : FirstC m c) (hc : c < m.pages) : ffree m = some c := by
  refine ffree_some hc ((free_iff m c).2 ⟨by rw [h.use]; simp, ?_⟩) fun k hk => ?_
  · cases hw : hasB m.was c with
    | false => rfl
    | true => have := h.was c hw; omega
  · unfold PgM.free
    rw [h.use]
    simp [hk]
theorem FirstC.put {m : PgM} {c : Nat} (h : FirstC m c) (hc : c < m.pages) (hul : m.use.length = 48) (h384 : m.pages ≤ 384) {T : Nat → List UInt8} {b : List UInt8} (hb : b.length ≤ 500) :
    putM m T b = ({ m with use := setB m.use c true }, fun q => if q = c then b else T q, (c : Int), (0 : Int)) ∧ FirstC { m with use := setB m.use c true } (c + 1) := by
  refine ⟨?_, ⟨fun p => ?_, fun p hp => Nat.lt_succ_of_lt (h.was p hp)⟩⟩
  · unfold putM
    rw [if_neg (by omega), h.ffree_ hc]
  · show hasB (setB m.use c true) p = _
    rw [setB_has (by omega), h.use]
    by_cases he : p = c
    · simp [he]
    · simp only [he, if_false]
      congr 1
      exact propext ⟨fun h => by omega, fun h => by omega⟩
theorem putM_long {m : PgM} {T : Nat → List UInt8} {b : List UInt8} (hb : 500 < b.length) : putM m T b = (m, T, (0 : Int), (5 : Int)) := by
  unfold putM
  rw [if_pos hb]
/-- The texts of the pages. -/
def TextsOf (l : List (List UInt8)) (k : Nat) (T : Nat → List UInt8) : Prop := ∀ j b, j < k → l[j]? = some b → b.length ≤ 500 → T (fitN l j) = b
theorem fitN_mono {l : List (List UInt8)} {i j : Nat} (h : i ≤ j) : fitN l i ≤ fitN l j := by
  unfold fitN
  have : (l.take i).Sublist (l.take j) := by
    rw [show i = min i j by omega, ← List.take_take]
    exact List.take_sublist _ _
  exact this.countP_le
theorem fitN_lt {l : List (List UInt8)} {i j : Nat} {b : List UInt8} (h : i < j) (hi : l[i]? = some b) (hb : b.length ≤ 500) : fitN l i < fitN l j := by
  have h1 := fitN_next hi
  rw [if_pos hb] at h1
  have := fitN_mono (l := l) (show i + 1 ≤ j from h)
  omega
theorem TextsOf.put {l : List (List UInt8)} {k : Nat} {T : Nat → List UInt8} (h : TextsOf l k T) {b : List UInt8} (hb : l[k]? = some b) : TextsOf l (k + 1) fun q => if q = fitN l k then b else T q := fun j b' hj hl h5 => by
  rcases Nat.lt_or_ge j k with hlt | hge
  · have := fitN_lt hlt hl h5
    simp only
    rw [if_neg (by omega)]
    exact h j b' hlt hl h5
  · obtain rfl : j = k := by omega
    rw [hb] at hl
    injection hl with hl
    subst hl
    simp
theorem TextsOf.skip {l : List (List UInt8)} {k : Nat} {T : Nat → List UInt8} (h : TextsOf l k T) {b : List UInt8} (hb : l[k]? = some b) (h5 : 500 < b.length) : TextsOf l (k + 1) T := fun j b' hj hl h5' => by
  rcases Nat.lt_or_ge j k with hlt | hge
  · exact h j b' hlt hl h5'
  · obtain rfl : j = k := by omega
    rw [hb] at hl
    injection hl with hl
    subst hl
    omega
/-- A row of rows of bytes. -/
def RowsAt (W : World) (A : Option Addr) (l : List (List UInt8)) : Prop := ∀ i b, l[i]? = some b → ∃ ad B c, A = some ad ∧ W.cell? (ad.add i) = some (.slice B b.length c) ∧ BAt W B b
theorem RowsAt.below {W w : World} {A : Option Addr} {l : List (List UInt8)} (h : RowsAt W A l) (hb : Below W.heap.size W w) : RowsAt w A l := fun i b hi => by
  obtain ⟨ad, B, c, hA, hc, hbt⟩ := h i b hi
  exact ⟨ad, B, c, hA, (hb.cell (cell_lt hc)).trans hc, hbt.below hb⟩
/-- A row of numbers that is the law's own, apart from a pager. -/
def Ints (B : Nat) (w : World) (K : Nat → Prop) (V : Value) (zs : List Int) : Prop := Vec w (fun g => B ≤ g ∧ ¬ K g) 3 1 V zs.length (zs.map intV)
section
variable {B : Nat} {w w' : World} {K : Nat → Prop} {V : Value} {zs : List Int}
theorem Ints.mods (h : Ints B w K V zs) (hm : Mods w.heap.size K w w') : Ints B w' (Grow K w w') V zs := by
  have h1 : Vec w (fun g => B ≤ g ∧ ¬ Grow K w w' g) 3 1 V zs.length (zs.map intV) := Vec.mono h fun g hg hf => ⟨hf.1, fun hk => hk.elim hf.2 fun h => by omega⟩
  exact h1.mods hm fun g hg hf => ⟨hg, fun hk => hf.2 (.inl hk)⟩
theorem Ints.below (h : Ints B w K V zs) (hb : Below w.heap.size w w') : Ints B w' K V zs := Vec.below h hb
theorem Ints.nil_ (B : Nat) (w : World) (K : Nat → Prop) (A : Option Addr) : Ints B w K (.slice A 0 0) [] := Vec.nil_ _ _ _ _ _
theorem Ints.cell (h : Ints B w K V zs) {j : Nat} {z : Int} (hj : zs[j]? = some z) : ∃ g c, V = .slice (some ⟨g, 0, none⟩) zs.length c ∧ w.cell? ⟨g, j, none⟩ = some (.int .i64 z) := by
  obtain ⟨A, c, rfl⟩ := Vec.shape h
  obtain ⟨g, rfl, hc⟩ := Vec.cell h j (intV z) (by rw [List.getElem?_map, hj]; rfl)
  exact ⟨g, c, rfl, hc⟩
theorem Ints.cell2 {A : Option Addr} {n c : Nat} (h : Ints B w K (.slice A n c) zs) {j : Nat} {z : Int} (hj : zs[j]? = some z) : ∃ g, A = some ⟨g, 0, none⟩ ∧ w.cell? ⟨g, j, none⟩ = some (.int .i64 z) := by
  obtain ⟨g, c', he, hc⟩ := h.cell hj
  injection he with h1 _ _
  exact ⟨g, h1, hc⟩
theorem Ints.shape (h : Ints B w K V zs) : ∃ A c, V = .slice A zs.length c := Vec.shape h
end
theorem intTy : ElTy Tryd.prog 28 3 1 8 (.int .i64 0) := ⟨Tryd.underlying28, by kernel_rfl, by kernel_rfl, by decide⟩
end Go.Proofs.YtookhagpgkefpaaDoor.Pag
/- Pages put and committed one by one; a pager behind a Format. -/
namespace Go.Proofs.YtookhagpgkefpaaDoor.Pag
open Go Go.RowKit Mem Pl Disk Crc _root_.Go.Proofs.YtookhagpgkefpaaDoor.Frame
section
variable {B : Nat} {w w' : World} {K : Nat → Prop} {a : Nat} {pm : PM} {n dev N : Nat} {H : List (List UInt8)} {ws : Ws} {g : Nat} {m : PgM} {T C : Nat → List UInt8}
/-- 'Commit' with the power on and no fuse. -/
theorem Pg1.commitN (x : Pg1 B w K a pm n dev N H ws g m) (hi : Inv N H ws m T C) (hB : B ≤ w.heap.size) (hn : n ≤ 800000000) (hon : pm.off = false) (hf : pm.fuse = none) (ht : TabB B w) (hgen : m.gen < 3000000000000000000) (root : Int) (hr : m.rootMay root = true) :
    Calls Tryd.prog 18 #[.pointer (some ⟨g, 0, none⟩), .int .i64 root] w fun e w' => e = .returned (.int .i64 0) ∧ ∃ pm' H', Mods w.heap.size K w w' ∧ pm'.off = false ∧ pm'.fuse = none ∧ Pg1 B w' (Grow K w w') a pm' (n + 3) dev N H' [] g (m.commit root) ∧ Inv N H' [] (m.commit root) T T := by
  obtain ⟨F, h, hF⟩ := x.inner
  refine (commit_any h hB hn hon ht.tab ht.c (by omega) root).mono ?_
  rintro e w' (⟨h0, rfl, rfl⟩ | ⟨_, F', pm', h1, h2, ⟨rfl, h3, h4, h6⟩ | ⟨rfl, h3, h4, h6⟩⟩)
  · rw [hr] at h0; cases h0
  · obtain ⟨h7, h8⟩ := pg_frame x hF hB h1 h2 h6
    exact ⟨rfl, pm', _, h8, h3, h4 hf, h7, hi.committed (rootMay_iff hr) hgen⟩
  · exact absurd hf h4
/-- 'Put' with the power on and no fuse. -/
theorem Pg1.putN (x : Pg1 B w K a pm n dev N H ws g m) (hi : Inv N H ws m T C) (hB : B ≤ w.heap.size) (hn : n ≤ 800000000) (hon : pm.off = false) (hf : pm.fuse = none) (ht : TabB B w) (A : Option Addr) (L cap : Nat) (bs : List UInt8) (hb : BAt w A bs) (hl : bs.length = L) (hLm : L ≤ 9223372036854775807) :
    Calls Tryd.prog 14 #[.pointer (some ⟨g, 0, none⟩), .slice A L cap] w fun e w' => e = .returned (.tuple #[.int .i64 (putM m T bs).2.2.1, .int .i64 (putM m T bs).2.2.2]) ∧ ∃ pm' ws', Mods w.heap.size K w w' ∧ pm'.off = false ∧ pm'.fuse = none ∧ Pg1 B w' (Grow K w w') a pm' (n + 8) dev N H ws' g (putM m T bs).1 ∧ Inv N H ws' (putM m T bs).1 (putM m T bs).2.1 C := by
  refine (x.put hi hB hn hon ht A L cap bs hb hl hLm).mono ?_
  rintro e w' ⟨pm', ws', hm, ⟨rfl, h1, h2, h3, h4⟩ | ⟨_, _, h, _⟩⟩
  · exact ⟨rfl, pm', ws', hm, h1, h2 hf, h3, h4⟩
  · exact absurd hf h
end
/-- What is so when just the first c pages are in use and committed. -/
theorem room_first {m : PgM} {c : Nat} (h : ∀ p, m.free p = decide (c ≤ p)) : ∀ n, m.room n = n - c
  | 0 => by unfold PgM.room; simp
  | n + 1 => by
    rw [room_next, room_first h n, h]
    by_cases hc : c ≤ n
    · simp [hc]; omega
    · simp [hc]; omega
theorem free_use {m : PgM} {c : Nat} (hu : ∀ p, hasB m.use p = decide (p < c)) (hw : ∀ p, hasB m.was p = decide (p < c)) (p : Nat) : m.free p = decide (c ≤ p) := by
  unfold PgM.free
  rw [hu, hw]
  by_cases h : c ≤ p
  · simp [h]
  · simp [h]; omega
/-- The pager behind a Format. -/
def fmtM (m : PgM) : PgM := { m with gen := m.gen + 1, root := -1, use := no48, was := no48 }
theorem fmtM_room (m : PgM) : (fmtM m).drop.room (fmtM m).drop.pages = m.pages := by
  have h : ∀ p, (fmtM m).drop.free p = decide (0 ≤ p) := fun p => by
    unfold PgM.free
    rw [show (fmtM m).drop.use = no48 from rfl, show (fmtM m).drop.was = no48 from rfl, hasB_no48]
    simp
  rw [room_first h]
  rfl
end Go.Proofs.YtookhagpgkefpaaDoor.Pag
/- A pager and the reference side by side in a law's hands: what each call does to the two; a law's row of calls. -/
namespace Go.Proofs.YtookhagpgkefpaaDoor.Pag
open Go Go.RowKit Mem Pl Disk Crc _root_.Go.Proofs.YtookhagpgkefpaaDoor.Frame
/-- A call of the row. -/
structure OpP where
  kd : Int
  n : Int
  AB : Option Addr
  L : Nat
  cb : Nat
  AK : Option Addr
  nk : Nat
  ck : Nat
  bs : List UInt8
  keep : List Int
def OpP.val (o : OpP) : Array Value := #[.int .i64 o.kd, .int .i64 o.n, .slice o.AB o.L o.cb, .slice o.AK o.nk o.ck]
structure OpPOk (W : World) (o : OpP) : Prop where
  kd : -9223372036854775808 ≤ o.kd ∧ o.kd < 9223372036854775808
  n : -9223372036854775808 ≤ o.n ∧ o.n < 9223372036854775808
  bs : BAt W o.AB o.bs
  len : o.bs.length = o.L
  most : o.L ≤ 100000000
  keep : IAt W o.AK o.keep
  klen : o.keep.length = o.nk
  kmost : o.nk ≤ 9223372036854775807
def OpPAt (W : World) (q : Addr) (o : OpP) : Prop :=
  W.cell? q = some (.int .i64 o.kd) ∧ W.cell? ⟨q.block, q.off + 1, none⟩ = some (.int .i64 o.n) ∧ W.cell? ⟨q.block, q.off + 2, none⟩ = some (.slice o.AB o.L o.cb) ∧ W.cell? ⟨q.block, q.off + 3, none⟩ = some (.slice o.AK o.nk o.ck)
theorem OpPAt.below {W w : World} {q : Addr} {o : OpP} (h : OpPAt W q o) (hb : Below W.heap.size W w) : OpPAt w q o := by
  obtain ⟨h0, h1, h2, h3⟩ := h
  exact ⟨(hb.cell (cell_lt h0)).trans h0, (hb.cell (cell_lt h1)).trans h1, (hb.cell (cell_lt h2)).trans h2, (hb.cell (cell_lt h3)).trans h3⟩
/-- The row of calls lies there. -/
def OpsPAt (W : World) (A : Option Addr) (os : List OpP) : Prop := ∀ i o, os[i]? = some o → ∃ ad, A = some ad ∧ OpPAt W (ad.add (i * 4)) o ∧ OpPOk W o
theorem bat_block {W : World} {A : Option Addr} {bs : List UInt8} (h : BAt W A bs) (hne : 0 < bs.length) : ∀ ad, A = some ad → ad.block < W.heap.size := fun ad hA => by
  obtain ⟨ad', h1, h2⟩ := h hne
  rw [hA] at h1
  injection h1 with h1
  subst h1
  have := cell_lt (h2 0 hne)
  rwa [show (ad.add 0).block = ad.block from by unfold Addr.add; split <;> rfl] at this
theorem iat_block {W : World} {A : Option Addr} {zs : List Int} (h : IAt W A zs) (hne : zs ≠ []) : ∀ ad, A = some ad → ad.block < W.heap.size := fun ad hA => by
  rcases h with h | ⟨ad', h1, h2⟩
  · exact absurd h hne
  · rw [hA] at h1
    injection h1 with h1
    subst h1
    obtain ⟨z, r, rfl⟩ : ∃ z r, zs = z :: r := by
      cases zs with
      | nil => exact absurd rfl hne
      | cons z r => exact ⟨z, r, rfl⟩
    have := cell_lt (h2 0 z rfl)
    rwa [show (ad.add 0).block = ad.block from by unfold Addr.add; split <;> rfl] at this
/-- Pager, plant and reference, behind what the law was given. -/
structure Two (W w : World) (Kp K J : Nat → Prop) (a : Nat) (pm : PM) (n dev N : Nat) (H : List (List UInt8)) (ws : Ws) (g : Nat) (m : PgM) (T C : Nat → List UInt8) (y : Nat) (r : RM) : Prop where
  bel : Below W.heap.size W w
  pg : Pg1 W.heap.size w Kp a pm n dev N H ws g m
  inv : Inv N H ws m T C
  ref : Beside W.heap.size w Kp K J y r
/-- The same, with the power on and no fuse; Z are blocks beside them that nothing turns. -/
def On2 (W w : World) (Z : Nat → Prop) (a n dev N g : Nat) (m : PgM) (T C : Nat → List UInt8) (y : Nat) (r : RM) : Prop :=
  ∃ Kp K J pm H ws, Two W w Kp K J a pm n dev N H ws g m T C y r ∧ pm.off = false ∧ pm.fuse = none ∧ ∀ k, Z k → ¬ Kp k ∧ ¬ K k ∧ ¬ J k ∧ k < w.heap.size
section
variable {W w w' : World} {Kp K J K' J' : Nat → Prop} {a : Nat} {pm : PM} {n dev N : Nat} {H : List (List UInt8)} {ws : Ws} {g : Nat} {m : PgM} {T C : Nat → List UInt8} {y : Nat} {r r' : RM}
theorem Two.hB (x : Two W w Kp K J a pm n dev N H ws g m T C y r) : W.heap.size ≤ w.heap.size := x.bel.size
theorem Two.below (x : Two W w Kp K J a pm n dev N H ws g m T C y r) (hb : Below w.heap.size w w') : Two W w' Kp K J a pm n dev N H ws g m T C y r :=
  ⟨x.bel.trans (hb.mono x.hB), x.pg.below hb, x.inv, x.ref.below hb⟩
theorem Two.more (x : Two W w Kp K J a pm n dev N H ws g m T C y r) {n' : Nat} (hn : n ≤ n') : Two W w Kp K J a pm n' dev N H ws g m T C y r :=
  ⟨x.bel, x.pg.more hn, x.inv, x.ref⟩
/-- The pager has moved. -/
theorem Two.pager (x : Two W w Kp K J a pm n dev N H ws g m T C y r) {pm' : PM} {n' : Nat} {H' : List (List UInt8)} {ws' : Ws} {g' : Nat} {m' : PgM} {T' C' : Nat → List UInt8}
    (hm : Mods w.heap.size Kp w w') (hp : Pg1 W.heap.size w' (Grow Kp w w') a pm' n' dev N H' ws' g' m') (hi : Inv N H' ws' m' T' C') : Two W w' (Grow Kp w w') K J a pm' n' dev N H' ws' g' m' T' C' y r :=
  ⟨grow_below hm x.pg.lt x.hB x.bel, hp, hi, x.ref.pager hm⟩
/-- The reference has moved. -/
theorem Two.ours (x : Two W w Kp K J a pm n dev N H ws g m T C y r) (hm : Mods w.heap.size K w w') (hr : RefP w' K' J' y r') (hK : ∀ g, K' g → K g ∨ w.heap.size ≤ g) (hJ : ∀ g, J' g → J g ∨ w.heap.size ≤ g) :
    Two W w' Kp K' J' a pm n dev N H ws g m T C y r' := by
  obtain ⟨h1, h2⟩ := x.ref.ours x.pg x.hB hm hr hK hJ
  refine ⟨grow_below hm (fun k hk => ⟨x.ref.lo k (.inl hk), x.ref.ref.lt.1 k hk⟩) x.hB x.bel, h2, x.inv, h1⟩
theorem grow_or {S : Nat → Prop} {w w' : World} : ∀ g, Grow S w w' g → S g ∨ w.heap.size ≤ g := fun _ hg => hg.elim .inl fun h => .inr h.1
theorem z_grow {S Z : Nat → Prop} {w w' : World} (h : ∀ k, Z k → ¬ S k ∧ k < w.heap.size) : ∀ k, Z k → ¬ Grow S w w' k := fun k hz hg => hg.elim (h k hz).1 fun hn => by
  have h1 := (h k hz).2
  have h2 := hn.1
  omega
variable {Z Z' : Nat → Prop}
theorem On2.below (x : On2 W w Z a n dev N g m T C y r) (hb : Below w.heap.size w w') : On2 W w' Z a n dev N g m T C y r := by
  obtain ⟨Kp, K, J, pm, H, ws, h, h1, h2, h3⟩ := x
  exact ⟨Kp, K, J, pm, H, ws, h.below hb, h1, h2, fun k hk => ⟨(h3 k hk).1, (h3 k hk).2.1, (h3 k hk).2.2.1, Nat.lt_of_lt_of_le (h3 k hk).2.2.2 hb.size⟩⟩
/-- What is laid anew stands beside. -/
theorem On2.new (x : On2 W w Z a n dev N g m T C y r) (hb : Below w.heap.size w w') : On2 W w' (fun k => Z k ∨ New w w' k) a n dev N g m T C y r := by
  obtain ⟨Kp, K, J, pm, H, ws, h, h1, h2, h3⟩ := x
  have hK := h.ref.ref.lt
  refine ⟨Kp, K, J, pm, H, ws, h.below hb, h1, h2, fun k hk => ?_⟩
  rcases hk with hk | hk
  · exact ⟨(h3 k hk).1, (h3 k hk).2.1, (h3 k hk).2.2.1, Nat.lt_of_lt_of_le (h3 k hk).2.2.2 hb.size⟩
  · have h4 := hk.1
    exact ⟨fun hp => by have := (h.pg.lt k hp).2; omega, fun hp => by have := hK.1 k hp; omega, fun hp => by have := hK.2 k hp; omega, hk.2⟩
theorem On2.less (x : On2 W w Z a n dev N g m T C y r) (hz : ∀ k, Z' k → Z k) : On2 W w Z' a n dev N g m T C y r := by
  obtain ⟨Kp, K, J, pm, H, ws, h, h1, h2, h3⟩ := x
  exact ⟨Kp, K, J, pm, H, ws, h, h1, h2, fun k hk => h3 k (hz k hk)⟩
theorem On2.more (x : On2 W w Z a n dev N g m T C y r) {n' : Nat} (hn : n ≤ n') : On2 W w Z a n' dev N g m T C y r := by
  obtain ⟨Kp, K, J, pm, H, ws, h, h1, h2, h3⟩ := x
  exact ⟨Kp, K, J, pm, H, ws, h.more hn, h1, h2, h3⟩
theorem On2.bel (x : On2 W w Z a n dev N g m T C y r) : Below W.heap.size W w := by
  obtain ⟨Kp, K, J, pm, H, ws, h, h1, h2, h3⟩ := x
  exact h.bel
/-- A block beside them is written. -/
theorem On2.zset (x : On2 W w Z a n dev N g m T C y r) {q : Addr} (hq : Z q.block) (hW : W.heap.size ≤ q.block) (v : Value) : On2 W (w.setCell q v) Z a n dev N g m T C y r := by
  obtain ⟨Kp, K, J, pm, H, ws, h, h1, h2, h3⟩ := x
  have hm : Mods w.heap.size (fun k => k = q.block) w (w.setCell q v) := (Mods.refl w.heap.size (fun k => k = q.block) w).setCell (p := q) (.inl rfl) v
  have hs : (w.setCell q v).heap.size = w.heap.size := by simp
  obtain ⟨z1, z2, z3, z4⟩ := h3 _ hq
  refine ⟨Kp, K, J, pm, H, ws, ⟨grow_below hm (fun k e => by subst e; exact ⟨hW, z4⟩) h.hB h.bel, h.pg.off_ hm (Nat.le_refl _) fun k e hk => z1 (e ▸ hk), h.inv, ⟨h.ref.ref.mods hm (fun k hk hK => ⟨hk, fun e => z2 (e ▸ hK)⟩) fun k hk hJ => ⟨hk, fun e => z3 (e ▸ hJ)⟩, h.ref.sep, h.ref.lo⟩⟩, h1, h2, fun k hk => by rw [hs]; exact h3 k hk⟩
theorem On2.put (x : On2 W w Z a n dev N g m T C y r) (hn : n ≤ 800000000) (ht : TabB W.heap.size W) (A : Option Addr) (L cap : Nat) (bs : List UInt8) (hb : BAt w A bs) (hl : bs.length = L) (hLm : L ≤ 9223372036854775807) :
    Calls Tryd.prog 14 #[.pointer (some ⟨g, 0, none⟩), .slice A L cap] w fun e w' => e = .returned (.tuple #[.int .i64 (putM m T bs).2.2.1, .int .i64 (putM m T bs).2.2.2]) ∧ Mods w.heap.size (fun k => ¬ Z k) w w' ∧ On2 W w' Z a (n + 8) dev N g (putM m T bs).1 (putM m T bs).2.1 C y r := by
  obtain ⟨Kp, K, J, pm, H, ws, h, h1, h2, h3⟩ := x
  refine (h.pg.putN h.inv h.hB hn h1 h2 (ht.below h.bel (Nat.le_refl _)) A L cap bs hb hl hLm).mono ?_
  rintro e w' ⟨he, pm', ws', hm, ho, hf, hp, hi⟩
  exact ⟨he, hm.mono (Nat.le_refl _) fun k _ hk hz => (h3 k hz).1 hk, _, K, J, pm', H, ws', h.pager hm hp hi, ho, hf, fun k hz => ⟨z_grow (fun k hz => ⟨(h3 k hz).1, (h3 k hz).2.2.2⟩) k hz, (h3 k hz).2.1, (h3 k hz).2.2.1, Nat.lt_of_lt_of_le (h3 k hz).2.2.2 hm.size⟩⟩
theorem On2.free (x : On2 W w Z a n dev N g m T C y r) (page : Int) :
    Calls Tryd.prog 16 #[.pointer (some ⟨g, 0, none⟩), .int .i64 page] w fun e w' => e = .returned (.int .i64 (freeM m page).2) ∧ Mods w.heap.size (fun k => ¬ Z k) w w' ∧ On2 W w' Z a n dev N g (freeM m page).1 T C y r := by
  obtain ⟨Kp, K, J, pm, H, ws, h, h1, h2, h3⟩ := x
  refine (h.pg.free h.inv h.hB page).mono ?_
  rintro e w' ⟨hm, he, hp, hi⟩
  exact ⟨he, hm.mono (Nat.le_refl _) fun k _ hk hz => (h3 k hz).1 hk, _, K, J, pm, H, ws, h.pager hm hp hi, h1, h2, fun k hz => ⟨z_grow (fun k hz => ⟨(h3 k hz).1, (h3 k hz).2.2.2⟩) k hz, (h3 k hz).2.1, (h3 k hz).2.2.1, Nat.lt_of_lt_of_le (h3 k hz).2.2.2 hm.size⟩⟩
/-- 'Commit' of a root that may be. -/
theorem On2.commit (x : On2 W w Z a n dev N g m T C y r) (hn : n ≤ 800000000) (ht : TabB W.heap.size W) (hgen : m.gen < 3000000000000000000) (root : Int) :
    Calls Tryd.prog 18 #[.pointer (some ⟨g, 0, none⟩), .int .i64 root] w fun e w' => (m.rootMay root = false ∧ e = .returned (.int .i64 90) ∧ w = w') ∨
      (m.rootMay root = true ∧ e = .returned (.int .i64 0) ∧ Mods w.heap.size (fun k => ¬ Z k) w w' ∧ On2 W w' Z a (n + 3) dev N g (m.commit root) T T y r) := by
  obtain ⟨Kp, K, J, pm, H, ws, h, h1, h2, h3⟩ := x
  refine (h.pg.commit h.inv h.hB hn h1 (ht.below h.bel (Nat.le_refl _)) hgen root).mono ?_
  rintro e w' ⟨pm', H', ws', hm, ⟨hr, he, hw⟩ | ⟨hr, he, ho, hf, hp, hi⟩ | ⟨_, _, _, h4, _⟩⟩
  · exact .inl ⟨hr, he, hw⟩
  · exact .inr ⟨hr, he, hm.mono (Nat.le_refl _) fun k _ hk hz => (h3 k hz).1 hk, _, K, J, pm', H', ws', h.pager hm hp hi, ho, hf h2, fun k hz => ⟨z_grow (fun k hz => ⟨(h3 k hz).1, (h3 k hz).2.2.2⟩) k hz, (h3 k hz).2.1, (h3 k hz).2.2.1, Nat.lt_of_lt_of_le (h3 k hz).2.2.2 hm.size⟩⟩
  · exact absurd h2 h4
/-- 'Open', anew. -/
theorem On2.opened (x : On2 W w Z a n dev N g m T C y r) (hn : n ≤ 800000000) (ht : TabB W.heap.size W) (hq : min ((N - 2) / 8) 384 = m.pages) :
    Calls Tryd.prog 12 #[.pointer (some ⟨a, 0, none⟩), .int .i64 (dev : Int)] w fun e w' => ∃ g', e = .returned (.tuple #[.pointer (some ⟨g', 0, none⟩), .int .i64 0]) ∧ Below w.heap.size w w' ∧ On2 W w' Z a n dev N g' m.drop C C y r := by
  obtain ⟨Kp, K, J, pm, H, ws, h, h1, h2, h3⟩ := x
  refine (h.pg.plant.opened h.inv h.hB hn h1 (ht.below h.bel (Nat.le_refl _)) hq).mono ?_
  rintro e w' ⟨g', he, hp, hi, hb⟩
  exact ⟨g', he, hb, _, K, J, pm, H, ws, h.pager (Mods.of_below hb) hp hi, h1, h2, fun k hz => ⟨z_grow (fun k hz => ⟨(h3 k hz).1, (h3 k hz).2.2.2⟩) k hz, (h3 k hz).2.1, (h3 k hz).2.2.1, Nat.lt_of_lt_of_le (h3 k hz).2.2.2 hb.size⟩⟩
theorem On2.rput (x : On2 W w Z a n dev N g m T C y r) (A : Option Addr) (L cap : Nat) (b : List UInt8) (hb : BAt W A b) (hl : b.length = L) (hLm : L ≤ 9223372036854775807) :
    Calls Tryd.prog 15 #[.pointer (some ⟨y, 0, none⟩), .slice A L cap] w fun e w' => e = .returned (.tuple #[.int .i64 (r.put b).2.1, .int .i64 (r.put b).2.2]) ∧ Mods w.heap.size (fun k => ¬ Z k) w w' ∧ On2 W w' Z a n dev N g m T C y (r.put b).1 := by
  obtain ⟨Kp, K, J, pm, H, ws, h, h1, h2, h3⟩ := x
  refine (rput_any h.ref.ref A L cap b (hb.below h.bel) hl hLm fun ad hA h0 => ?_).mono ?_
  · have hlt := bat_block hb (by omega) ad hA
    exact ⟨Nat.lt_of_lt_of_le hlt h.hB, fun hk => by have := h.ref.lo _ (.inl hk); omega⟩
  · rintro e w' ⟨he, hm, hr⟩
    exact ⟨he, hm.mono (Nat.le_refl _) fun k _ hk hz => (h3 k hz).2.1 hk, Kp, K, _, pm, H, ws, h.ours hm hr (fun _ hg => .inl hg) grow_or, h1, h2, fun k hz => ⟨(h3 k hz).1, (h3 k hz).2.1, z_grow (fun k hz => ⟨(h3 k hz).2.2.1, (h3 k hz).2.2.2⟩) k hz, Nat.lt_of_lt_of_le (h3 k hz).2.2.2 hm.size⟩⟩
theorem On2.rfree (x : On2 W w Z a n dev N g m T C y r) (p : Int) :
    Calls Tryd.prog 17 #[.pointer (some ⟨y, 0, none⟩), .int .i64 p] w fun e w' => e = .returned (.int .i64 (if r.used p then 0 else 90)) ∧ Mods w.heap.size (fun k => ¬ Z k) w w' ∧ On2 W w' Z a n dev N g m T C y (freeR r p) := by
  obtain ⟨Kp, K, J, pm, H, ws, h, h1, h2, h3⟩ := x
  unfold freeR
  refine (rfree_any h.ref.ref p).mono ?_
  rintro e w' (⟨hu, he, rfl⟩ | ⟨hu, he, hm, hr⟩)
  · rw [hu]
    exact ⟨he, Mods.refl _ _ _, Kp, K, J, pm, H, ws, h, h1, h2, h3⟩
  · rw [hu]
    exact ⟨he, hm.mono (Nat.le_refl _) fun k _ hk hz => (h3 k hz).2.1 hk, Kp, K, J, pm, H, ws, h.ours hm hr (fun _ hg => .inl hg) fun _ hg => .inl hg, h1, h2, fun k hz => ⟨(h3 k hz).1, (h3 k hz).2.1, (h3 k hz).2.2.1, Nat.lt_of_lt_of_le (h3 k hz).2.2.2 hm.size⟩⟩
theorem On2.rcommit (x : On2 W w Z a n dev N g m T C y r) (root : Int) :
    Calls Tryd.prog 19 #[.pointer (some ⟨y, 0, none⟩), .int .i64 root] w fun e w' => ((root ≠ -1 ∧ r.used root = false) ∧ e = .returned (.int .i64 90) ∧ w = w') ∨
      ((root = -1 ∨ r.used root = true) ∧ e = .returned (.int .i64 0) ∧ Mods w.heap.size (fun k => ¬ Z k) w w' ∧ On2 W w' Z a n dev N g m T C y (r.commit root)) := by
  obtain ⟨Kp, K, J, pm, H, ws, h, h1, h2, h3⟩ := x
  refine (rcommit_any h.ref.ref root).mono ?_
  rintro e w' (⟨hn, hu, he, hw⟩ | ⟨hu, he, hm, hr⟩)
  · exact .inl ⟨⟨hn, hu⟩, he, hw⟩
  · exact .inr ⟨hu, he, hm.mono (Nat.le_refl _) fun k _ hk hz => (h3 k hz).2.1 hk, Kp, K, _, pm, H, ws, h.ours hm hr (fun _ hg => .inl hg) grow_or, h1, h2, fun k hz => ⟨(h3 k hz).1, (h3 k hz).2.1, z_grow (fun k hz => ⟨(h3 k hz).2.2.1, (h3 k hz).2.2.2⟩) k hz, Nat.lt_of_lt_of_le (h3 k hz).2.2.2 hm.size⟩⟩
theorem On2.rdrop (x : On2 W w Z a n dev N g m T C y r) :
    Calls Tryd.prog 20 #[.pointer (some ⟨y, 0, none⟩)] w fun e w' => e = .returned (.tuple #[]) ∧ Mods w.heap.size (fun k => ¬ Z k) w w' ∧ On2 W w' Z a n dev N g m T C y r.drop := by
  obtain ⟨Kp, K, J, pm, H, ws, h, h1, h2, h3⟩ := x
  refine (rdrop_any h.ref.ref).mono ?_
  rintro e w' ⟨he, hm, hr⟩
  exact ⟨he, hm.mono (Nat.le_refl _) fun k _ hk hz => (h3 k hz).2.1 hk, Kp, _, J, pm, H, ws, h.ours hm hr grow_or fun _ hg => .inl hg, h1, h2, fun k hz => ⟨(h3 k hz).1, z_grow (fun k hz => ⟨(h3 k hz).2.1, (h3 k hz).2.2.2⟩) k hz, (h3 k hz).2.2.1, Nat.lt_of_lt_of_le (h3 k hz).2.2.2 hm.size⟩⟩
theorem On2.alike (x : On2 W w Z a n dev N g m T C y r) (hs : RSim r m T C) (hn : n ≤ 800000000) (ht : TabB W.heap.size W) :
    Calls Tryd.prog 21 #[.pointer (some ⟨g, 0, none⟩), .pointer (some ⟨y, 0, none⟩)] w fun e w' => e = .returned (.bool true) ∧ Below w.heap.size w w' := by
  obtain ⟨Kp, K, J, pm, H, ws, h, h1, h2, h3⟩ := x
  exact alike_any h.pg h.inv h.hB hn h1 (ht.below h.bel (Nat.le_refl _)) h.ref.ref hs
theorem On2.use48 (x : On2 W w Z a n dev N g m T C y r) : m.use.length = 48 ∧ m.pages ≤ 384 := by
  obtain ⟨Kp, K, J, pm, H, ws, h, h1, h2, h3⟩ := x
  exact ⟨h.inv.ul, h.inv.n384⟩
end
end Go.Proofs.YtookhagpgkefpaaDoor.Pag
/- 'alike' of a pager and a reference of which nothing is known but that they have as many pages: what it answers when it says yes. -/
namespace Go.Proofs.YtookhagpgkefpaaDoor.Pag
open Go Go.RowKit Mem Pl Disk Crc _root_.Go.Proofs.YtookhagpgkefpaaDoor.Frame
theorem str_beq (as_ bs : List UInt8) : ((⟨as_.toArray⟩ : ByteArray).toList == (⟨bs.toArray⟩ : ByteArray).toList) = decide (as_ = bs) := by
  rw [← beq_toListBytes]
  show (as_.toArray == bs.toArray) = _
  rw [Bool.eq_iff_iff, beq_iff_eq, decide_eq_true_iff]
  simp
/-- What the reference says of a page. -/
def RM.text (r : RM) (p : Int) : List UInt8 := if r.used p then r.b.getD p.toNat [] else []
theorem rread_gen {w : World} {K J : Nat → Prop} {y : Nat} {r : RM} (ry : RefP w K J y r) (hlen : ∀ b ∈ r.b, b.length ≤ 100000000) (p : Int) : Calls Tryd.prog 48 #[.pointer (some ⟨y, 0, none⟩), .int .i64 p] w fun e w' =>
    ∃ A c, e = .returned (.tuple #[.slice A (r.text p).length c, .int .i64 (if r.used p then 0 else 90)]) ∧ BAt w' A (r.text p) ∧ Below w.heap.size w w' := by
  refine (rread_any ry hlen p).mono ?_
  unfold RM.text
  rintro e w' ⟨hb, ⟨hu, rfl⟩ | ⟨b, A, c, hu, hbp, rfl, hat⟩⟩
  · rw [hu]
    exact ⟨none, 0, rfl, BAt.nil_ _ _, hb⟩
  · rw [hu]
    have e : r.b.getD p.toNat [] = b := by rw [List.getD_eq_getElem?_getD, hbp]; rfl
    rw [e]
    exact ⟨A, c, rfl, hat, hb⟩
/-- What was seen so far. -/
def AlG (w : World) (r : RM) (m : PgM) (T : Nat → List UInt8) (iv : Value) (wr : World) : Prop := ∃ q : Nat, q ≤ m.pages + 2 ∧ q ≤ 41 ∧ iv = .int .i64 ((q : Int) - 1) ∧ Below w.heap.size w wr ∧
  ∀ k : Nat, k + 1 < q → r.used (k : Int) = m.inUse (k : Int) ∧ r.text (k : Int) = if m.inUse (k : Int) then T k else []
set_option maxRecDepth 100000 in
set_option maxHeartbeats 4000000 in
theorem alike_gen {B : Nat} {w : World} {Kp K J : Nat → Prop} {a : Nat} {pm : PM} {n dev N : Nat} {H : List (List UInt8)} {ws : Ws} {g y : Nat} {m : PgM} {T C : Nat → List UInt8} {r : RM} (x : Pg1 B w Kp a pm n dev N H ws g m) (hi : Inv N H ws m T C) (hB : B ≤ w.heap.size) (hn : n ≤ 800000000) (hon : pm.off = false) (ht : TabB B w)
    (ry : RefP w K J y r) (hpg : r.pages = m.pages) (hlen : ∀ b ∈ r.b, b.length ≤ 100000000) (h38 : m.pages ≤ 38) :
    Calls Tryd.prog 21 #[.pointer (some ⟨g, 0, none⟩), .pointer (some ⟨y, 0, none⟩)] w fun e w' => Below w.heap.size w w' ∧ (e = .returned (.bool false) ∨
      (e = .returned (.bool true) ∧ r.root = m.root ∧ ∀ k : Nat, k < m.pages → r.used (k : Int) = m.inUse (k : Int) ∧ r.text (k : Int) = if m.inUse (k : Int) then T k else [])) := by
  have HX := Lib.hid x
  have HI := Lib.hid hi
  have HON := Lib.hid hon
  have HT := Lib.hid ht
  have HY := Lib.hid ry
  have HLEN := Lib.hid hlen
  have HPG := Lib.hid hpg
  have HRT := Lib.hid x.root
  have HRM := Lib.hid x.room
  have HYT := Lib.hid (rroot_any ry)
  have HYM := Lib.hid (rroom_any ry)
  obtain ⟨mr, hmr⟩ : ∃ mr, m.root = mr := ⟨_, rfl⟩
  obtain ⟨rr, hrr⟩ : ∃ rr, r.root = rr := ⟨_, rfl⟩
  obtain ⟨mo, hmo⟩ : ∃ mo : Int, (m.room m.pages : Int) = mo := ⟨_, rfl⟩
  obtain ⟨ro, hro⟩ : ∃ ro : Int, (r.room r.pages : Int) = ro := ⟨_, rfl⟩
  rw [hmr] at HRT
  rw [hrr] at HYT
  rw [hmo] at HRM
  rw [hro] at HYM
  rw [hmr, hrr]
  clear x hi hon ht ry hpg hlen hmr hrr hmo hro
  go_enter Tryd.func21, Tryd.ntmps21
  go_wp2_with fail
  refine HRT.out.mono ?_
  rintro e _ ⟨rfl, rfl⟩
  go_wp2_with fail
  refine HYT.out.mono ?_
  rintro e _ ⟨rfl, rfl⟩
  by_cases hroot : mr ≠ rr
  · have hne : (mr != rr) = true := by simpa using hroot
    clear hroot
    go_wp2_with fail
    go_ret
    exact ⟨Below.refl _ _, .inl rfl⟩
  replace hroot := Decidable.of_not_not hroot
  subst hroot
  go_wp2_with fail
  refine HRM.out.mono ?_
  rintro e _ ⟨rfl, rfl⟩
  go_wp2_with fail
  refine HYM.out.mono ?_
  rintro e _ ⟨rfl, rfl⟩
  by_cases hroom : mo ≠ ro
  · have hne : (mo != ro) = true := by simpa using hroom
    clear hroom
    go_wp2_with fail
    go_ret
    exact ⟨Below.refl _ _, .inl rfl⟩
  replace hroom := Decidable.of_not_not hroom
  subst hroom
  go_wp2_with fail
  go_loopw [5] (fun iv wr => AlG w r m T iv wr) (fun iv _ => (41 - intOf iv).toNat)
  case atStart => exact ⟨0, by omega, by omega, rfl, Below.refl _ _, fun k hk => by omega⟩
  case round =>
    obtain ⟨q, hq, hq2, rfl, hbw, hall⟩ := hrel
    have HALL := Lib.hid hall
    have hy0 : wr.cell? ⟨y, 0, none⟩ = some (.int .i64 (m.pages : Int)) := by
      obtain ⟨_, _, _, _, _, _, _, _, _, _, h⟩ := HY.out.below hbw
      rw [← HPG.out]
      exact h.c0
    have HBW := Lib.hid hbw
    clear hbw hall
    by_cases hgo : q ≤ m.pages + 1 ∧ q < 41
    · obtain ⟨h1, h2⟩ := hgo
      have h1I : (q : Int) - 1 ≤ (m.pages : Int) := by omega
      have h2I : (q : Int) - 1 < 40 := by omega
      have hw1 : IntKind.i64.wrap ((q : Int) - 1 + 1) = (q : Int) := by rw [Int.sub_add_cancel]; exact IntWalk.i64_in _ (by omega)
      have HRD := Lib.hid ((HX.out.below HBW.out).read HI.out (Nat.le_trans hB HBW.out.size) hn HON.out (HT.out.below HBW.out hB) ((q : Int) - 1))
      have HRF : Hid (∀ w', Below w.heap.size w w' → _) := Lib.hid fun w' hb => rread_gen (HY.out.below hb) HLEN.out ((q : Int) - 1)
      have HNX : Hid (r.used ((q : Int) - 1) = m.inUse ((q : Int) - 1) → r.text ((q : Int) - 1) = (if m.inUse ((q : Int) - 1) then T ((q : Int) - 1).toNat else []) → ∀ k : Nat, k + 1 < q + 1 → r.used (k : Int) = m.inUse (k : Int) ∧ r.text (k : Int) = if m.inUse (k : Int) then T k else []) := Lib.hid fun e1 e2 k hk => by
        by_cases h : k + 1 < q
        · exact HALL.out k h
        · obtain rfl : q = k + 1 := by omega
          rw [show ((k + 1 : Nat) : Int) - 1 = (k : Int) by omega, Int.toNat_natCast] at *
          exact ⟨e1, e2⟩
      have HEC : Hid ((if m.inUse ((q : Int) - 1) then 0 else 90 : Int) = (if r.used ((q : Int) - 1) then 0 else 90) → r.used ((q : Int) - 1) = m.inUse ((q : Int) - 1)) := Lib.hid fun h => by
        cases h3 : m.inUse ((q : Int) - 1) <;> cases h4 : r.used ((q : Int) - 1) <;> first | rfl | (rw [h3, h4] at h; exact absurd h (by decide))
      obtain ⟨tb, htb⟩ : ∃ tb, (if m.inUse ((q : Int) - 1) then T ((q : Int) - 1).toNat else []) = tb := ⟨_, rfl⟩
      obtain ⟨ec, hec⟩ : ∃ ec : Int, (if m.inUse ((q : Int) - 1) then 0 else 90) = ec := ⟨_, rfl⟩
      obtain ⟨rb, hrb⟩ : ∃ rb, r.text ((q : Int) - 1) = rb := ⟨_, rfl⟩
      obtain ⟨rc, hrc⟩ : ∃ rc : Int, (if r.used ((q : Int) - 1) then 0 else 90) = rc := ⟨_, rfl⟩
      have hrd := HRD.out
      have hrf := HRF.out
      have hnx := HNX.out
      have hecc := HEC.out
      rw [htb, hec] at hrd
      rw [hrb, hrc] at hrf
      rw [htb, hrb] at hnx
      rw [hec, hrc] at hecc
      have HRE := Lib.hid hrd
      have HRG := Lib.hid hrf
      have HN2 := Lib.hid hnx
      have HE2 := Lib.hid hecc
      have HQ := Lib.hid (show q ≤ m.pages + 1 ∧ q < 41 from ⟨h1, h2⟩)
      clear hrd hrf hnx hecc HRD HRF HNX HEC htb hec hrb hrc h1 h2 hq hq2
      go_wp2_with fail
      refine HRE.out.mono ?_
      rintro e wa ⟨A, kk, ca, rfl, ho, hba⟩
      have HBA := Lib.hid (HBW.out.trans (hba.mono HBW.out.size))
      have HRF2 := Lib.hid (HRG.out wa HBA.out)
      have HO := Lib.hid ho
      clear ho hba hy0
      go_wp2_with fail
      refine HRF2.out.mono ?_
      rintro e wb ⟨A2, c2, rfl, hat, hbb⟩
      have HBB := Lib.hid (HBA.out.trans (hbb.mono HBA.out.size))
      by_cases hE : ec ≠ rc
      · have hne : (ec != rc) = true := by simpa using hE
        clear hE hat hbb HRE HRG HRF2
        go_wp2_with fail
        go_ret
        exact ⟨HBB.out, .inl rfl⟩
      replace hE := Decidable.of_not_not hE
      have HU := Lib.hid (HE2.out hE)
      subst hE
      have k3 := run_toString (P := Tryd.prog) (w := wb) (ts := 9) Pl.byteTy al_strTy ca (HO.out.bat.below hbb) HO.out.len
      have k4 := run_toString (P := Tryd.prog) (w := wb) (ts := 9) Pl.byteTy al_strTy c2 hat rfl
      by_cases hT : tb = rb
      · subst hT
        have HNX := Lib.hid (HN2.out HU.out rfl)
        generalize (⟨tb.toArray⟩ : ByteArray) = S at k3 k4
        clear hat hbb HRE HRG HRF2
        go_wp2_with fail
        go_roundw
        case rel => exact ⟨q + 1, by have := HQ.out.1; omega, by have := HQ.out.2; omega, by simp, HBB.out, HNX.out⟩
        case measure => have := HQ.out.2; simp [intOf]; omega
      · have hsm : ((⟨tb.toArray⟩ : ByteArray).toList == (⟨rb.toArray⟩ : ByteArray).toList) = false := by rw [str_beq]; exact decide_eq_false hT
        clear hT
        generalize (⟨tb.toArray⟩ : ByteArray) = S1 at k3 hsm
        generalize (⟨rb.toArray⟩ : ByteArray) = S2 at k4 hsm
        have hsm2 : (S1.toList != S2.toList) = true := by simp [bne, hsm]
        clear hat hbb HRE HRG HRF2
        go_wp2_with fail
        go_ret
        exact ⟨HBB.out, .inl rfl⟩
    · have hend : Hid (∀ k : Nat, k < m.pages → r.used (k : Int) = m.inUse (k : Int) ∧ r.text (k : Int) = if m.inUse (k : Int) then T k else []) := Lib.hid fun k hk => HALL.out k (by omega)
      by_cases hp : q ≤ m.pages + 1
      · exfalso
        omega
      · have h1I : ¬ (q : Int) - 1 ≤ (m.pages : Int) := by omega
        clear hgo
        go_wp2_with fail
        go_ret
        exact ⟨HBW.out, .inr ⟨rfl, hend.out⟩⟩
end Go.Proofs.YtookhagpgkefpaaDoor.Pag
/- The reference's 'Clone'. -/
namespace Go.Proofs.YtookhagpgkefpaaDoor.Pag
open Go Go.RowKit Mem Pl Disk Crc _root_.Go.Proofs.YtookhagpgkefpaaDoor.Frame
/-- What 'Clone' answers: rows of its own; the bytes are shared. -/
def RetC (w : World) (J : Nat → Prop) (r : RM) (e : Ending) (w' : World) : Prop :=
  ∃ y' K' J', e = .returned (.pointer (some ⟨y', 0, none⟩)) ∧ Below w.heap.size w w' ∧ RefP w' K' J' y' r ∧ (∀ g, K' g → w.heap.size ≤ g) ∧ (∀ g, J' g → J g ∨ w.heap.size ≤ g)
section
variable {w w' : World} {K J K' J' F : Nat → Prop} {y : Nat} {r : RM} {gB cB gU cU gW cW gC cC : Nat} {bs cs : List Value}
theorem vec_re {G : Nat → Prop} {e : TypeId} {n g c : Nat} {xs : List Value} (h : Vec w F e 1 (.slice (some ⟨g, 0, none⟩) n c) n xs) (h0 : 0 < n) (hg : G g) : Vec w G e 1 (.slice (some ⟨g, 0, none⟩) n c) n xs := by
  obtain ⟨A', cap', he, hl, ⟨h1, _⟩ | ⟨g', cur, hA, _, hr⟩⟩ := h
  · omega
  · injection he with e1 _ e3
    subst e1 e3
    injection hA with hA
    injection hA with hA
    subst hA
    exact ⟨_, _, rfl, hl, .inr ⟨_, cur, rfl, hg, hr⟩⟩
theorem RefC.less (x : RefC w K J y r gB cB gU cU gW cW gC cC bs cs) (hy : K' y) (hB : K' gB) (hU : K' gU) (hk : ∀ g, K' g → K g) : RefC w K' J y r gB cB gU cU gW cW gC cC bs cs :=
  ⟨⟨x.pos, x.le, x.bl, x.cl, vec_re x.rb x.pos hB, vec_re x.ru x.pos hU, x.rw_, x.rc, x.bv, x.cv, fun g h => x.dis g (hk g h), fun g h => x.klt g (hk g h), x.jlt⟩, x.blk, hy⟩
set_option maxHeartbeats 4000000 in
theorem rclone_any (x : RefP w K J y r) : Calls Tryd.prog 29 #[.pointer (some ⟨y, 0, none⟩)] w (RetC w J r) := by
  obtain ⟨gB, cB, gU, cU, gW, cW, gC, cC, bs, cs, x⟩ := x
  have hp := x.pos
  have hp384 := x.le
  have c0 := x.c0
  have c1 := x.c1
  have c2 := x.c2
  have c3 := x.c3
  have c4 := x.c4
  have c5 := x.c5
  have hyl := x.blk.lt
  have HX := Lib.hid x
  clear x
  go_enter Tryd.func29, Tryd.ntmps29
  go_upto_region 2 with fail
  --BEGIN
  have HB0 : Hid (Below w.heap.size w (w.alloc (.cells (rCells r gB cB gU cU gW cW gC cC).toArray 80))) := Lib.hid (below_al' _)
  have HC0 : Hid (RefC (w.alloc (.cells (rCells r gB cB gU cU gW cW gC cC).toArray 80)) (fun g => K g ∨ g = w.heap.size) J w.heap.size r gB cB gU cU gW cW gC cC bs cs) := by
    have h := (HX.out.below HB0.out).toRefD
    exact Lib.hid ⟨⟨h.pos, h.le, h.bl, h.cl, h.rb.mono fun g _ hg => .inl hg, h.ru.mono fun g _ hg => .inl hg, h.rw_, h.rc, h.bv, h.cv, fun g hg hj => hg.elim (fun hg => h.dis g hg hj) fun e => by have := HX.out.jlt g hj; omega, fun g hg => hg.elim (h.klt g) fun e => by subst e; simp, h.jlt⟩, Blk.new _ _ _, .inr rfl⟩
  have hJ0 : ∀ g, J g → J g := fun _ h => h
  clear c0 c1 c2 c3 c4 c5 hyl
  change Code.wp _ _ _ _ (w.alloc (.cells (rCells r gB cB gU cU gW cW gC cC).toArray 80))
  generalize w.alloc (.cells (rCells r gB cB gU cU gW cW gC cC).toArray 80) = w0 at *
  have hba0 := below_al' (w := w0) (.cells #[] 38)
  have HY0 := Lib.hid (HX.out.below (HB0.out.trans (hba0.mono HB0.out.size)))
  have hc0 := HC0.out.below hba0
  have q0 := HY0.out.c1
  have hyl0 := HY0.out.blk.lt
  have hcl0 := hc0.blk.lt
  have HCB0 := Lib.hid hc0
  have HBA0 := Lib.hid hba0
  clear hba0 hc0
  go_upto_region 3 with
    (at_builtin
     refine wpList_copy_vec rfl (.tmp 7) (.tmp 11) _ rfl 24 _ rowsTy _ rfl (some ⟨gB, 0, none⟩) cB rfl HY0.out.rb HY0.out.rows_one (by unfold maxLen; omega) (by omega) ?_
     intro A0 d0 v0 hv hb _
     obtain ⟨h0, rfl⟩ := vec_at hv hp
     have HC0' := Lib.hid (HCB0.out.below hb)
     have HY0' := Lib.hid (HY0.out.below hb)
     have s0 := HC0'.out.c1
     have z0 := HC0'.out.blk.frozen 1
     have l0 := HC0'.out.blk.lt
     have HV0 := Lib.hid hv
     have HVB0 := Lib.hid hb
     clear hv hb)
  have hc0 := HCB0.out
  have hx0 := HC0'.out.setB (l := r.b) HV0.out HY0.out.bl ((HY0'.out.bv).mono fun g _ hg => hJ0 g hg) (fun g hg => ⟨fun hj => by have := hc0.jlt g hj; have := hg.1; omega, hg.2⟩)
  have hbk0 : Below w.heap.size w (v0.setCell ⟨w.heap.size, 1, none⟩ (.slice (some ⟨h0, 0, none⟩) r.pages d0)) := (((Mods.of_below (F := fun _ => False) (HB0.out.trans ((HBA0.out.trans (HVB0.out.mono HBA0.out.size)).mono HB0.out.size))).setCell (p := ⟨w.heap.size, 1, none⟩) (.inr (Nat.le_refl _)) _)).below fun _ _ h => h
  have hsn0 : w.heap.size ≤ h0 := by
    have h1 := (Vec.own_ HV0.out hp).1
    have h2 := HB0.out.size
    have h3 := HBA0.out.size
    omega
  have HC1 := Lib.hid hx0
  have HB1 := Lib.hid hbk0
  have HN0 := Lib.hid hsn0
  clear q0 hyl0 hcl0 s0 z0 l0 hc0 hx0 hbk0 hsn0
  generalize v0.setCell ⟨w.heap.size, 1, none⟩ (.slice (some ⟨h0, 0, none⟩) r.pages d0) = w1 at *
  have hba1 := below_al' (w := w1) (.cells #[] 4)
  have HY1 := Lib.hid (HX.out.below (HB1.out.trans (hba1.mono HB1.out.size)))
  have hc1 := HC1.out.below hba1
  have q1 := HY1.out.c2
  have hyl1 := HY1.out.blk.lt
  have hcl1 := hc1.blk.lt
  have HCB1 := Lib.hid hc1
  have HBA1 := Lib.hid hba1
  clear hba1 hc1
  go_upto_region 4 with
    (at_builtin
     refine wpList_copy_vec rfl (.tmp 14) (.tmp 18) _ rfl 1 _ boolTy _ rfl (some ⟨gU, 0, none⟩) cU rfl HY1.out.ru (bools_one _) (by unfold maxLen; omega) (by omega) ?_
     intro A1 d1 v1 hv hb _
     obtain ⟨h1, rfl⟩ := vec_at hv hp
     have HC1' := Lib.hid (HCB1.out.below hb)
     have HY1' := Lib.hid (HY1.out.below hb)
     have s1 := HC1'.out.c2
     have z1 := HC1'.out.blk.frozen 2
     have l1 := HC1'.out.blk.lt
     have HV1 := Lib.hid hv
     have HVB1 := Lib.hid hb
     clear hv hb)
  have hc1 := HCB1.out
  have hx1 := HC1'.out.setUse (us := r.use) HV1.out (fun g hg => ⟨fun hj => by have := hc1.jlt g hj; have := hg.1; omega, hg.2⟩)
  have hbk1 : Below w.heap.size w (v1.setCell ⟨w.heap.size, 2, none⟩ (.slice (some ⟨h1, 0, none⟩) r.pages d1)) := (((Mods.of_below (F := fun _ => False) (HB1.out.trans ((HBA1.out.trans (HVB1.out.mono HBA1.out.size)).mono HB1.out.size))).setCell (p := ⟨w.heap.size, 2, none⟩) (.inr (Nat.le_refl _)) _)).below fun _ _ h => h
  have hsn1 : w.heap.size ≤ h1 := by
    have h1 := (Vec.own_ HV1.out hp).1
    have h2 := HB1.out.size
    have h3 := HBA1.out.size
    omega
  have HC2 := Lib.hid hx1
  have HB2 := Lib.hid hbk1
  have HN1 := Lib.hid hsn1
  clear q1 hyl1 hcl1 s1 z1 l1 hc1 hx1 hbk1 hsn1
  generalize v1.setCell ⟨w.heap.size, 2, none⟩ (.slice (some ⟨h1, 0, none⟩) r.pages d1) = w2 at *
  have hba2 := below_al' (w := w2) (.cells #[] 4)
  have HY2 := Lib.hid (HX.out.below (HB2.out.trans (hba2.mono HB2.out.size)))
  have hc2 := HC2.out.below hba2
  have q2 := HY2.out.c3
  have hyl2 := HY2.out.blk.lt
  have hcl2 := hc2.blk.lt
  have HCB2 := Lib.hid hc2
  have HBA2 := Lib.hid hba2
  clear hba2 hc2
  go_upto_region 5 with
    (at_builtin
     refine wpList_copy_vec rfl (.tmp 21) (.tmp 25) _ rfl 1 _ boolTy _ rfl (some ⟨gW, 0, none⟩) cW rfl HY2.out.rw_ (bools_one _) (by unfold maxLen; omega) (by omega) ?_
     intro A2 d2 v2 hv hb _
     obtain ⟨h2, rfl⟩ := vec_at hv hp
     have HC2' := Lib.hid (HCB2.out.below hb)
     have HY2' := Lib.hid (HY2.out.below hb)
     have s2 := HC2'.out.c3
     have z2 := HC2'.out.blk.frozen 3
     have l2 := HC2'.out.blk.lt
     have HV2 := Lib.hid hv
     have HVB2 := Lib.hid hb
     clear hv hb)
  have hc2 := HCB2.out
  have hx2 := HC2'.out.setWas (us := r.was) HV2.out (fun g hg => ⟨fun hj => by have := hc2.klt g hj; have := hg.1; omega, hg.2⟩)
  have hbk2 : Below w.heap.size w (v2.setCell ⟨w.heap.size, 3, none⟩ (.slice (some ⟨h2, 0, none⟩) r.pages d2)) := (((Mods.of_below (F := fun _ => False) (HB2.out.trans ((HBA2.out.trans (HVB2.out.mono HBA2.out.size)).mono HB2.out.size))).setCell (p := ⟨w.heap.size, 3, none⟩) (.inr (Nat.le_refl _)) _)).below fun _ _ h => h
  have hsn2 : w.heap.size ≤ h2 := by
    have h1 := (Vec.own_ HV2.out hp).1
    have h2 := HB2.out.size
    have h3 := HBA2.out.size
    omega
  have HC3 := Lib.hid hx2
  have HB3 := Lib.hid hbk2
  have HN2 := Lib.hid hsn2
  clear q2 hyl2 hcl2 s2 z2 l2 hc2 hx2 hbk2 hsn2
  generalize v2.setCell ⟨w.heap.size, 3, none⟩ (.slice (some ⟨h2, 0, none⟩) r.pages d2) = w3 at *
  have hJ3 : ∀ g, J g → J g ∨ New (w2.alloc (.cells #[] 4)) v2 g := fun g hg => .inl hg
  have hba3 := below_al' (w := w3) (.cells #[] 38)
  have HY3 := Lib.hid (HX.out.below (HB3.out.trans (hba3.mono HB3.out.size)))
  have hc3 := HC3.out.below hba3
  have q3 := HY3.out.c5
  have hyl3 := HY3.out.blk.lt
  have hcl3 := hc3.blk.lt
  have HCB3 := Lib.hid hc3
  have HBA3 := Lib.hid hba3
  clear hba3 hc3
  go_wp2_with
    (at_builtin
     refine wpList_copy_vec rfl (.tmp 28) (.tmp 32) _ rfl 24 _ rowsTy _ rfl (some ⟨gC, 0, none⟩) cC rfl HY3.out.rc HY3.out.coms_one (by unfold maxLen; omega) (by omega) ?_
     intro A3 d3 v3 hv hb _
     obtain ⟨h3, rfl⟩ := vec_at hv hp
     have HC3' := Lib.hid (HCB3.out.below hb)
     have HY3' := Lib.hid (HY3.out.below hb)
     have s3 := HC3'.out.c5
     have z3 := HC3'.out.blk.frozen 5
     have l3 := HC3'.out.blk.lt
     have HV3 := Lib.hid hv
     have HVB3 := Lib.hid hb
     clear hv hb)
  go_ret
  have hc3 := HCB3.out
  have hx3 := HC3'.out.setCom (l := r.com) HV3.out HY3.out.cl ((HY3'.out.cv).mono fun g _ hg => hJ3 g hg) (fun g hg => ⟨fun hj => by have := hc3.klt g hj; have := hg.1; omega, hg.2⟩)
  have hbk3 : Below w.heap.size w (v3.setCell ⟨w.heap.size, 5, none⟩ (.slice (some ⟨h3, 0, none⟩) r.pages d3)) := (((Mods.of_below (F := fun _ => False) (HB3.out.trans ((HBA3.out.trans (HVB3.out.mono HBA3.out.size)).mono HB3.out.size))).setCell (p := ⟨w.heap.size, 5, none⟩) (.inr (Nat.le_refl _)) _)).below fun _ _ h => h
  have i0 := HN0.out
  have i1 := HN1.out
  have j2 := HB2.out.size
  have j3 := HB3.out.size
  have m2 := HBA2.out.size
  have m3 := HBA3.out.size
  unfold RetC
  refine ⟨w.heap.size, fun g => g = w.heap.size ∨ g = h0 ∨ g = h1, _, rfl, hbk3, ⟨_, _, _, _, _, _, _, _, _, _, hx3.less (.inl rfl) (.inr (.inl rfl)) (.inr (.inr rfl)) fun g hg => ?_⟩, fun g hg => ?_, fun g hg => ?_⟩
  · rcases hg with rfl | rfl | rfl
    · exact hx3.own
    · exact (hx3.rb.blockF hp).1
    · exact (hx3.ru.blockF hp).1
  · rcases hg with rfl | rfl | rfl <;> omega
  · rcases hg with (hg | hg) | hg
    · exact .inl hg
    · exact .inr (by have := hg.1; omega)
    · exact .inr (by have := hg.1; omega)
end
end Go.Proofs.YtookhagpgkefpaaDoor.Pag
/- The law 'PagerCrashes': pager, reference, and what a commit at hand would have made; with the power on, and behind a crash. -/
namespace Go.Proofs.YtookhagpgkefpaaDoor.Pag
open Go Go.RowKit Mem Pl Disk Crc _root_.Go.Proofs.YtookhagpgkefpaaDoor.Frame
def ZOk (w : World) (Z Kp K J : Nat → Prop) : Prop := ∀ k, Z k → ¬ Kp k ∧ ¬ K k ∧ ¬ J k ∧ k < w.heap.size
theorem RSim.observed {r : RM} {m m2 : PgM} {C C2 : Nat → List UInt8} (h : RSim r.drop m.drop C C) (hp : m2.pages = m.pages) (hr : r.root = m2.root)
    (ha : ∀ k : Nat, k < m2.pages → r.drop.used (k : Int) = m2.drop.inUse (k : Int) ∧ r.drop.text (k : Int) = if m2.drop.inUse (k : Int) then C2 k else []) : RSim r.drop m2.drop C2 C2 := by
  have hpg : r.pages = m.pages := h.pages
  have hu : ∀ k, k < m2.pages → r.was.getD k false = hasB m2.was k := fun k hk => by
    have h1 := (ha k hk).1
    unfold RM.used PgM.inUse at h1
    have e1 : decide (0 ≤ (k : Int)) = true := by simp
    have e2 : decide ((k : Int) < (r.drop.pages : Int)) = true := by show decide ((k : Int) < (r.pages : Int)) = true; simp; omega
    have e3 : decide ((k : Int) < (m2.drop.pages : Int)) = true := by show decide ((k : Int) < (m2.pages : Int)) = true; simp; omega
    simp only [e1, e2, e3, Int.toNat_natCast, Bool.true_and] at h1
    exact h1
  have ht : ∀ k, k < m2.pages → hasB m2.was k = true → r.com.getD k [] = C2 k := fun k hk hh => by
    have h1 := (ha k hk).1
    have h2 := (ha k hk).2
    have h3 : m2.drop.inUse (k : Int) = true := by
      unfold PgM.inUse
      simp
      exact ⟨hk, hh⟩
    rw [h3] at h1 h2
    unfold RM.text at h2
    rw [h1, Int.toNat_natCast] at h2
    exact h2
  exact ⟨hpg.trans hp.symm, hr, hu, hu, ht, ht, h.len, h.clen, h.ul, h.wl, h.bl, h.cl⟩
theorem RSim.dropped' {r : RM} {m : PgM} {T C : Nat → List UInt8} (h : RSim r m T C) : RSim r.drop.drop m.drop.drop C C := h.dropped
/-- With the power on. -/
def OnC (W w : World) (Z : Nat → Prop) (a n N g : Nat) (m : PgM) (T C : Nat → List UInt8) (y : Nat) (r : RM) : Prop :=
  ∃ Kp K J pm H ws, Two W w Kp K J a pm n 0 N H ws g m T C y r ∧ pm.off = false ∧ ZOk w Z Kp K J
/-- .. and a second reference. -/
def On3 (W w : World) (Z : Nat → Prop) (a n N g : Nat) (m : PgM) (T C : Nat → List UInt8) (y : Nat) (r : RM) (y2 : Nat) (r2 : RM) : Prop :=
  ∃ Kp K J K2 J2 pm H ws, Two W w Kp K J a pm n 0 N H ws g m T C y r ∧ pm.off = false ∧ ZOk w Z Kp K J ∧ Beside W.heap.size w Kp K2 J2 y2 r2 ∧ (∀ k, K k → ¬ K2 k ∧ ¬ J2 k) ∧ ZOk w Z Kp K2 J2 ∧ ∀ k, K2 k → ¬ J k
/-- What a crash may leave: the disk as it was committed last, or (behind a commit at hand) as the commit would have made it. -/
def MayC (W w : World) (Kp K J : Nat → Prop) (N : Nat) (H : List (List UInt8)) (ws : Ws) (m : PgM) (C : Nat → List UInt8) (np q : Nat) : Option Nat → Prop
  | none => ∀ vs : Ws, vs.Sublist ws → Inv N (setAll vs H) [] m.drop C C
  | some y2 => ∃ (K2 J2 : Nat → Prop) (m2 : PgM) (C2 : Nat → List UInt8) (r2 : RM), Beside W.heap.size w Kp K2 J2 y2 r2 ∧ (∀ k, K k → ¬ K2 k ∧ ¬ J2 k) ∧ (∀ k, K2 k → ¬ J k) ∧ RSim r2.drop m2.drop C2 C2 ∧ m2.gen ≤ q ∧ m2.pages = np ∧
      ∀ vs : Ws, vs.Sublist ws → Inv N (setAll vs H) [] m.drop C C ∨ Inv N (setAll vs H) [] m2.drop C2 C2
/-- Ahead of a boot. -/
def OffC (W w : World) (a n N np y : Nat) (mv : Option Nat) (q : Nat) (off : Bool) : Prop :=
  ∃ (Kp K J : Nat → Prop) (pm : PM) (H : List (List UInt8)) (ws : Ws) (m : PgM) (C : Nat → List UInt8) (r : RM), Below W.heap.size W w ∧ Pd1 W.heap.size w Kp a pm n 0 N H ws ∧ Beside W.heap.size w Kp K J y r ∧ RSim r.drop m.drop C C ∧ m.gen ≤ q ∧ m.pages = np ∧ pm.off = off ∧ MayC W w Kp K J N H ws m C np q mv
/-- Behind a boot: the disk as it was. -/
def BtA (W w : World) (a n N np y q : Nat) : Prop :=
  ∃ (Kp K J : Nat → Prop) (pm : PM) (H : List (List UInt8)) (M : PgM) (D : Nat → List UInt8) (r : RM), Below W.heap.size W w ∧ Pd1 W.heap.size w Kp a pm n 0 N H [] ∧ pm.off = false ∧ Beside W.heap.size w Kp K J y r ∧ RSim r.drop M.drop D D ∧ M.gen ≤ q ∧ M.pages = np ∧ Inv N H [] M.drop D D
/-- .. or as the commit would have made it. -/
def BtB (W w : World) (a n N np y y2 q : Nat) : Prop :=
  ∃ (Kp K J K2 J2 : Nat → Prop) (pm : PM) (H : List (List UInt8)) (m : PgM) (C : Nat → List UInt8) (M : PgM) (D : Nat → List UInt8) (r r2 : RM), Below W.heap.size W w ∧ Pd1 W.heap.size w Kp a pm n 0 N H [] ∧ pm.off = false ∧ Beside W.heap.size w Kp K J y r ∧ Beside W.heap.size w Kp K2 J2 y2 r2 ∧ (∀ k, K k → ¬ K2 k ∧ ¬ J2 k) ∧ (∀ k, K2 k → ¬ J k) ∧
    RSim r.drop m.drop C C ∧ m.pages = np ∧ RSim r2.drop M.drop D D ∧ M.gen ≤ q ∧ M.pages = np ∧ Inv N H [] M.drop D D
section
variable {W w w' : World} {Z Z' Kp K J K' J' : Nat → Prop} {a : Nat} {pm : PM} {n N : Nat} {H : List (List UInt8)} {ws : Ws} {g : Nat} {m : PgM} {T C : Nat → List UInt8} {y y2 : Nat} {r r2 : RM} {mv : Option Nat} {np q : Nat} {off : Bool} {root : Int}
theorem ZOk.size (h : ZOk w Z Kp K J) (hs : w.heap.size ≤ w'.heap.size) : ZOk w' Z Kp K J := fun k hk => ⟨(h k hk).1, (h k hk).2.1, (h k hk).2.2.1, Nat.lt_of_lt_of_le (h k hk).2.2.2 hs⟩
theorem ZOk.growP (h : ZOk w Z Kp K J) (hs : w.heap.size ≤ w'.heap.size) : ZOk w' Z (Grow Kp w w') K J := fun k hk => ⟨z_grow (fun k hz => ⟨(h k hz).1, (h k hz).2.2.2⟩) k hk, (h k hk).2.1, (h k hk).2.2.1, Nat.lt_of_lt_of_le (h k hk).2.2.2 hs⟩
theorem ZOk.growK (h : ZOk w Z Kp K J) (hs : w.heap.size ≤ w'.heap.size) : ZOk w' Z Kp (Grow K w w') J := fun k hk => ⟨(h k hk).1, z_grow (fun k hz => ⟨(h k hz).2.1, (h k hz).2.2.2⟩) k hk, (h k hk).2.2.1, Nat.lt_of_lt_of_le (h k hk).2.2.2 hs⟩
theorem ZOk.growJ (h : ZOk w Z Kp K J) (hs : w.heap.size ≤ w'.heap.size) : ZOk w' Z Kp K (Grow J w w') := fun k hk => ⟨(h k hk).1, (h k hk).2.1, z_grow (fun k hz => ⟨(h k hz).2.2.1, (h k hz).2.2.2⟩) k hk, Nat.lt_of_lt_of_le (h k hk).2.2.2 hs⟩
theorem ZOk.modsP (h : ZOk w Z Kp K J) (hm : Mods w.heap.size Kp w w') : Mods w.heap.size (fun k => ¬ Z k) w w' := hm.mono (Nat.le_refl _) fun k _ hk hz => (h k hz).1 hk
theorem ZOk.modsK (h : ZOk w Z Kp K J) (hm : Mods w.heap.size K w w') : Mods w.heap.size (fun k => ¬ Z k) w w' := hm.mono (Nat.le_refl _) fun k _ hk hz => (h k hz).2.1 hk
theorem OnC.bel (x : OnC W w Z a n N g m T C y r) : Below W.heap.size W w := by
  obtain ⟨Kp, K, J, pm, H, ws, h, _, _⟩ := x
  exact h.bel
theorem OnC.below (x : OnC W w Z a n N g m T C y r) (hb : Below w.heap.size w w') : OnC W w' Z a n N g m T C y r := by
  obtain ⟨Kp, K, J, pm, H, ws, h, h1, h2⟩ := x
  exact ⟨Kp, K, J, pm, H, ws, h.below hb, h1, h2.size hb.size⟩
theorem OnC.new (x : OnC W w Z a n N g m T C y r) (hb : Below w.heap.size w w') : OnC W w' (fun k => Z k ∨ New w w' k) a n N g m T C y r := by
  obtain ⟨Kp, K, J, pm, H, ws, h, h1, h3⟩ := x
  have hK := h.ref.ref.lt
  refine ⟨Kp, K, J, pm, H, ws, h.below hb, h1, fun k hk => ?_⟩
  rcases hk with hk | hk
  · exact ⟨(h3 k hk).1, (h3 k hk).2.1, (h3 k hk).2.2.1, Nat.lt_of_lt_of_le (h3 k hk).2.2.2 hb.size⟩
  · have h4 := hk.1
    exact ⟨fun hp => by have := (h.pg.lt k hp).2; omega, fun hp => by have := hK.1 k hp; omega, fun hp => by have := hK.2 k hp; omega, hk.2⟩
theorem OnC.less (x : OnC W w Z a n N g m T C y r) (hz : ∀ k, Z' k → Z k) : OnC W w Z' a n N g m T C y r := by
  obtain ⟨Kp, K, J, pm, H, ws, h, h1, h3⟩ := x
  exact ⟨Kp, K, J, pm, H, ws, h, h1, fun k hk => h3 k (hz k hk)⟩
theorem OnC.more (x : OnC W w Z a n N g m T C y r) {n' : Nat} (hn : n ≤ n') : OnC W w Z a n' N g m T C y r := by
  obtain ⟨Kp, K, J, pm, H, ws, h, h1, h3⟩ := x
  exact ⟨Kp, K, J, pm, H, ws, h.more hn, h1, h3⟩
theorem OnC.use48 (x : OnC W w Z a n N g m T C y r) : m.use.length = 48 ∧ m.pages ≤ 384 := by
  obtain ⟨Kp, K, J, pm, H, ws, h, h1, h3⟩ := x
  exact ⟨h.inv.ul, h.inv.n384⟩
theorem OnC.on (x : OnC W w Z a n N g m T C y r) : Calls Tryd.prog 28 #[.pointer (some ⟨a, 0, none⟩)] w fun e w' => e = .returned (.bool true) ∧ w = w' := by
  obtain ⟨Kp, K, J, pm, H, ws, h, h1, h3⟩ := x
  obtain ⟨F, hp, _⟩ := h.pg.inner
  have := on_any hp.st.at_
  rw [h1] at this
  exact this
theorem OnC.rput (x : OnC W w Z a n N g m T C y r) (A : Option Addr) (L cap : Nat) (b : List UInt8) (hb : BAt W A b) (hl : b.length = L) (hLm : L ≤ 9223372036854775807) :
    Calls Tryd.prog 15 #[.pointer (some ⟨y, 0, none⟩), .slice A L cap] w fun e w' => e = .returned (.tuple #[.int .i64 (r.put b).2.1, .int .i64 (r.put b).2.2]) ∧ Mods w.heap.size (fun k => ¬ Z k) w w' ∧ OnC W w' Z a n N g m T C y (r.put b).1 := by
  obtain ⟨Kp, K, J, pm, H, ws, h, h1, h3⟩ := x
  refine (rput_any h.ref.ref A L cap b (hb.below h.bel) hl hLm fun ad hA h0 => ?_).mono ?_
  · have hlt := bat_block hb (by omega) ad hA
    exact ⟨Nat.lt_of_lt_of_le hlt h.hB, fun hk => by have := h.ref.lo _ (.inl hk); omega⟩
  · rintro e w' ⟨he, hm, hr⟩
    exact ⟨he, h3.modsK hm, Kp, K, _, pm, H, ws, h.ours hm hr (fun _ hg => .inl hg) grow_or, h1, h3.growJ hm.size⟩
theorem OnC.free (x : OnC W w Z a n N g m T C y r) (page : Int) :
    Calls Tryd.prog 16 #[.pointer (some ⟨g, 0, none⟩), .int .i64 page] w fun e w' => e = .returned (.int .i64 (freeM m page).2) ∧ Mods w.heap.size (fun k => ¬ Z k) w w' ∧ OnC W w' Z a n N g (freeM m page).1 T C y r := by
  obtain ⟨Kp, K, J, pm, H, ws, h, h1, h3⟩ := x
  refine (h.pg.free h.inv h.hB page).mono ?_
  rintro e w' ⟨hm, he, hp, hi⟩
  exact ⟨he, h3.modsP hm, _, K, J, pm, H, ws, h.pager hm hp hi, h1, h3.growP hm.size⟩
theorem OnC.rfree (x : OnC W w Z a n N g m T C y r) (p : Int) :
    Calls Tryd.prog 17 #[.pointer (some ⟨y, 0, none⟩), .int .i64 p] w fun e w' => e = .returned (.int .i64 (if r.used p then 0 else 90)) ∧ Mods w.heap.size (fun k => ¬ Z k) w w' ∧ OnC W w' Z a n N g m T C y (freeR r p) := by
  obtain ⟨Kp, K, J, pm, H, ws, h, h1, h3⟩ := x
  unfold freeR
  refine (rfree_any h.ref.ref p).mono ?_
  rintro e w' (⟨hu, he, rfl⟩ | ⟨hu, he, hm, hr⟩)
  · rw [hu]
    exact ⟨he, Mods.refl _ _ _, Kp, K, J, pm, H, ws, h, h1, h3⟩
  · rw [hu]
    exact ⟨he, h3.modsK hm, Kp, K, J, pm, H, ws, h.ours hm hr (fun _ hg => .inl hg) fun _ hg => .inl hg, h1, h3.size hm.size⟩
theorem OnC.setFuse (x : OnC W w Z a n N g m T C y r) (z : Int) (hz : z < 9223372036854775808) :
    Calls Tryd.prog 26 #[.pointer (some ⟨a, 0, none⟩), .int .i64 z] w fun e w' => e = .returned (.tuple #[]) ∧ Mods w.heap.size (fun k => ¬ Z k) w w' ∧ OnC W w' Z a (n + 1) N g m T C y r := by
  obtain ⟨Kp, K, J, pm, H, ws, h, h1, h3⟩ := x
  refine (h.pg.setFuse h.hB z hz).mono ?_
  rintro e w' ⟨he, hp, ho, hm⟩
  exact ⟨he, h3.modsP hm, _, K, J, _, H, ws, h.pager hm hp h.inv, ho.trans h1, h3.growP hm.size⟩
theorem OnC.rdrop (x : OnC W w Z a n N g m T C y r) :
    Calls Tryd.prog 20 #[.pointer (some ⟨y, 0, none⟩)] w fun e w' => e = .returned (.tuple #[]) ∧ Mods w.heap.size (fun k => ¬ Z k) w w' ∧ OnC W w' Z a n N g m T C y r.drop := by
  obtain ⟨Kp, K, J, pm, H, ws, h, h1, h3⟩ := x
  refine (rdrop_any h.ref.ref).mono ?_
  rintro e w' ⟨he, hm, hr⟩
  exact ⟨he, h3.modsK hm, Kp, _, J, pm, H, ws, h.ours hm hr grow_or fun _ hg => .inl hg, h1, h3.growK hm.size⟩
theorem OnC.alike (x : OnC W w Z a n N g m T C y r) (hs : RSim r m T C) (hn : n ≤ 800000000) (ht : TabB W.heap.size W) :
    Calls Tryd.prog 21 #[.pointer (some ⟨g, 0, none⟩), .pointer (some ⟨y, 0, none⟩)] w fun e w' => e = .returned (.bool true) ∧ Below w.heap.size w w' := by
  obtain ⟨Kp, K, J, pm, H, ws, h, h1, h3⟩ := x
  exact alike_any h.pg h.inv h.hB hn h1 (ht.below h.bel (Nat.le_refl _)) h.ref.ref hs
/-- A pager in the hands of a law, ahead of a boot: its power may be on. -/
theorem OnC.crash (x : OnC W w Z a n N g m T C y r) (hs : RSim r m T C) (hg : m.gen ≤ q) : OffC W w a n N m.pages y none q false := by
  obtain ⟨Kp, K, J, pm, H, ws, h, h1, h3⟩ := x
  exact ⟨Kp, K, J, pm, H, ws, m, C, r, h.bel, h.pg.plant, h.ref, hs.dropped, hg, rfl, h1, fun vs hv => h.inv.sub hv⟩
/-- 'Put': done, or the power went off at it. -/
theorem OnC.put (x : OnC W w Z a n N g m T C y r) (hs : RSim r m T C) (hg : m.gen ≤ q) (hn : n ≤ 800000000) (ht : TabB W.heap.size W) (A : Option Addr) (L cap : Nat) (bs : List UInt8) (hb : BAt w A bs) (hl : bs.length = L) (hLm : L ≤ 9223372036854775807) :
    Calls Tryd.prog 14 #[.pointer (some ⟨g, 0, none⟩), .slice A L cap] w fun e w' => Mods w.heap.size (fun k => ¬ Z k) w w' ∧
      ((e = .returned (.tuple #[.int .i64 (putM m T bs).2.2.1, .int .i64 (putM m T bs).2.2.2]) ∧ OnC W w' Z a (n + 8) N g (putM m T bs).1 (putM m T bs).2.1 C y r) ∨
       (e = .returned (.tuple #[.int .i64 0, .int .i64 2]) ∧ OffC W w' a (n + 8) N m.pages y none q true)) := by
  obtain ⟨Kp, K, J, pm, H, ws, h, h1, h3⟩ := x
  refine (h.pg.put h.inv h.hB hn h1 (ht.below h.bel (Nat.le_refl _)) A L cap bs hb hl hLm).mono ?_
  rintro e w' ⟨pm', ws', hm, ⟨he, ho, _, hp, hi⟩ | ⟨he, ho, _, hp, hi⟩⟩
  · exact ⟨h3.modsP hm, .inl ⟨he, _, K, J, pm', H, ws', h.pager hm hp hi, ho, h3.growP hm.size⟩⟩
  · have h4 := h.pager hm hp hi
    exact ⟨h3.modsP hm, .inr ⟨he, _, K, J, pm', H, ws', m, C, r, h4.bel, hp.plant, h4.ref, hs.dropped, hg, rfl, ho, fun vs hv => hi.sub hv⟩⟩
/-- 'Clone'. -/
theorem OnC.rclone (x : OnC W w Z a n N g m T C y r) :
    Calls Tryd.prog 29 #[.pointer (some ⟨y, 0, none⟩)] w fun e w' => ∃ y2, e = .returned (.pointer (some ⟨y2, 0, none⟩)) ∧ Below w.heap.size w w' ∧ On3 W w' Z a n N g m T C y r y2 r := by
  obtain ⟨Kp, K, J, pm, H, ws, h, h1, h3⟩ := x
  refine (rclone_any h.ref.ref).mono ?_
  rintro e w' ⟨y2, K2, J2, he, hb, hr2, hk2, hj2⟩
  obtain ⟨hkl, hjl⟩ := h.ref.ref.lt
  have hdis : ∀ k, K k → ¬ J k := by
    obtain ⟨_, _, _, _, _, _, _, _, _, _, hx⟩ := h.ref.ref
    exact hx.dis
  refine ⟨y2, he, hb, Kp, K, J, K2, J2, pm, H, ws, h.below hb, h1, h3.size hb.size, ⟨hr2, fun k hk => ⟨fun h2 => ?_, fun h2 => ?_⟩, fun k hk => ?_⟩, fun k hk => ⟨fun h2 => ?_, fun h2 => ?_⟩, fun k hz => ⟨(h3 k hz).1, fun h2 => ?_, fun h2 => ?_, Nat.lt_of_lt_of_le (h3 k hz).2.2.2 hb.size⟩, fun k h2 hj => by have := hk2 k h2; have := hjl k hj; omega⟩
  · have := hk2 k h2; have := (h.pg.lt k hk).2; omega
  · rcases hj2 k h2 with h2 | h2
    · exact (h.ref.sep k hk).2 h2
    · have := (h.pg.lt k hk).2; omega
  · rcases hk with h2 | h2
    · exact Nat.le_trans h.hB (hk2 k h2)
    · rcases hj2 k h2 with h2 | h2
      · exact h.ref.lo k (.inr h2)
      · exact Nat.le_trans h.hB h2
  · have := hk2 k h2; have := hkl k hk; omega
  · rcases hj2 k h2 with h2 | h2
    · exact hdis k hk h2
    · have := hkl k hk; omega
  · have := hk2 k h2; have := (h3 k hz).2.2.2; omega
  · rcases hj2 k h2 with h2 | h2
    · exact (h3 k hz).2.2.1 h2
    · have := (h3 k hz).2.2.2; omega
/-- The second alone. -/
theorem On3.second (x : On3 W w Z a n N g m T C y r y2 r2) : OnC W w Z a n N g m T C y2 r2 := by
  obtain ⟨Kp, K, J, K2, J2, pm, H, ws, h, h1, h3, h4, h5, h6, h9⟩ := x
  exact ⟨Kp, K2, J2, pm, H, ws, ⟨h.bel, h.pg, h.inv, h4⟩, h1, h6⟩
theorem On3.first (x : On3 W w Z a n N g m T C y r y2 r2) : OnC W w Z a n N g m T C y r := by
  obtain ⟨Kp, K, J, K2, J2, pm, H, ws, h, h1, h3, h4, h5, h6, h9⟩ := x
  exact ⟨Kp, K, J, pm, H, ws, h, h1, h3⟩
theorem On3.below (x : On3 W w Z a n N g m T C y r y2 r2) (hb : Below w.heap.size w w') : On3 W w' Z a n N g m T C y r y2 r2 := by
  obtain ⟨Kp, K, J, K2, J2, pm, H, ws, h, h1, h3, h4, h5, h6, h9⟩ := x
  exact ⟨Kp, K, J, K2, J2, pm, H, ws, h.below hb, h1, h3.size hb.size, h4.below hb, h5, h6.size hb.size, h9⟩
/-- 'Commit' of the second. -/
theorem On3.rcommit (x : On3 W w Z a n N g m T C y r y2 r2) (root : Int) :
    Calls Tryd.prog 19 #[.pointer (some ⟨y2, 0, none⟩), .int .i64 root] w fun e w' => ((root ≠ -1 ∧ r2.used root = false) ∧ e = .returned (.int .i64 90) ∧ w = w') ∨
      ((root = -1 ∨ r2.used root = true) ∧ e = .returned (.int .i64 0) ∧ Mods w.heap.size (fun k => ¬ Z k) w w' ∧ On3 W w' Z a n N g m T C y r y2 (r2.commit root)) := by
  obtain ⟨Kp, K, J, K2, J2, pm, H, ws, h, h1, h3, h4, h5, h6, h9⟩ := x
  refine (rcommit_any h4.ref root).mono ?_
  rintro e w' (⟨hn, hu, he, hw⟩ | ⟨hu, he, hm, hr⟩)
  · exact .inl ⟨⟨hn, hu⟩, he, hw⟩
  · obtain ⟨hkl, hjl⟩ := h.ref.ref.lt
    have hdis : ∀ k, K2 k → ¬ K k := fun k h2 hk => (h5 k hk).1 h2
    obtain ⟨h7, h8⟩ := h4.ours h.pg h.hB hm hr (fun _ hg => .inl hg) grow_or
    refine .inr ⟨hu, he, h6.modsK hm, Kp, K, J, K2, _, pm, H, ws, ⟨?_, h8, h.inv, ⟨h.ref.ref.mods hm (fun k hk hK => ⟨hk, fun h2 => hdis k h2 hK⟩) (fun k hk hJ => ⟨hk, fun h2 => h9 k h2 hJ⟩), h.ref.sep, h.ref.lo⟩⟩, h1, h3.size hm.size, h7, fun k hk => ⟨(h5 k hk).1, fun h2 => ?_⟩, h6.growJ hm.size, h9⟩
    · exact grow_below hm (fun k hk => ⟨h4.lo k (.inl hk), h4.ref.lt.1 k hk⟩) h.hB h.bel
    · rcases h2 with h2 | h2
      · exact (h5 k hk).2 h2
      · have := hkl k hk; have := h2.1; omega
theorem On3.rdrop (x : On3 W w Z a n N g m T C y r y2 r2) :
    Calls Tryd.prog 20 #[.pointer (some ⟨y, 0, none⟩)] w fun e w' => e = .returned (.tuple #[]) ∧ On3 W w' Z a n N g m T C y r.drop y2 r2 := by
  obtain ⟨Kp, K, J, K2, J2, pm, H, ws, h, h1, h3, h4, h5, h6, h9⟩ := x
  refine (rdrop_any h.ref.ref).mono ?_
  rintro e w' ⟨he, hm, hr⟩
  obtain ⟨hkl, hjl⟩ := h4.ref.lt
  refine ⟨he, Kp, _, J, K2, J2, pm, H, ws, h.ours hm hr grow_or fun _ hg => .inl hg, h1, h3.growK hm.size, ⟨h4.ref.mods hm (fun k hk h2 => ⟨hk, fun hK => (h5 k hK).1 h2⟩) (fun k hk h2 => ⟨hk, fun hK => (h5 k hK).2 h2⟩), h4.sep, h4.lo⟩, fun k hk => ?_, h6.size hm.size, h9⟩
  rcases hk with hk | hk
  · exact h5 k hk
  · have := hk.1
    exact ⟨fun h2 => by have := hkl k h2; omega, fun h2 => by have := hjl k h2; omega⟩
/-- 'Commit', a commit of the second behind it: done, or the power went off at it. -/
theorem On3.commit (x : On3 W w Z a n N g m T C y r y2 (r.commit root)) (hs : RSim r m T C) (hr : m.rootMay root = true) (hq : m.gen + 1 ≤ q) (hn : n ≤ 800000000) (ht : TabB W.heap.size W) (hgen : m.gen < 3000000000000000000) :
    Calls Tryd.prog 18 #[.pointer (some ⟨g, 0, none⟩), .int .i64 root] w fun e w' =>
      (e = .returned (.int .i64 0) ∧ OnC W w' Z a (n + 3) N g (m.commit root) T T y2 (r.commit root)) ∨ (e = .returned (.int .i64 2) ∧ OffC W w' a (n + 3) N m.pages y (some y2) q true) := by
  obtain ⟨Kp, K, J, K2, J2, pm, H, ws, h, h1, h3, h4, h5, h6, h9⟩ := x
  refine (h.pg.commit h.inv h.hB hn h1 (ht.below h.bel (Nat.le_refl _)) hgen root).mono ?_
  rintro e w' ⟨pm', H', ws', hm, ⟨h0, _⟩ | ⟨_, he, ho, _, hp, hi⟩ | ⟨_, he, ho, _, hp, hv⟩⟩
  · rw [hr] at h0; cases h0
  · exact .inl ⟨he, _, K2, J2, pm', H', ws', ⟨grow_below hm h.pg.lt h.hB h.bel, hp, hi, h4.pager hm⟩, ho, h6.growP hm.size⟩
  · exact .inr ⟨he, _, K, J, pm', H', ws', m, C, r, grow_below hm h.pg.lt h.hB h.bel, hp.plant, h.ref.pager hm, hs.dropped, by omega, rfl, ho, K2, J2, m.commit root, T, r.commit root, h4.pager hm, h5, h9, (hs.committed root).dropped, hq, rfl, hv⟩
/-- .. of a root that may not be. -/
theorem On3.commitNo (x : On3 W w Z a n N g m T C y r y2 r2) (hr : m.rootMay root = false) (hn : n ≤ 800000000) (ht : TabB W.heap.size W) (hgen : m.gen < 3000000000000000000) :
    Calls Tryd.prog 18 #[.pointer (some ⟨g, 0, none⟩), .int .i64 root] w fun e w' => e = .returned (.int .i64 90) ∧ w = w' := by
  obtain ⟨Kp, K, J, K2, J2, pm, H, ws, h, h1, h3, h4, h5, h6, h9⟩ := x
  refine (h.pg.commit h.inv h.hB hn h1 (ht.below h.bel (Nat.le_refl _)) hgen root).mono ?_
  rintro e w' ⟨pm', H', ws', hm, ⟨_, he, hw⟩ | ⟨h0, _⟩ | ⟨h0, _⟩⟩
  · exact ⟨he, hw⟩
  · rw [hr] at h0; cases h0
  · rw [hr] at h0; cases h0
theorem OffC.below (x : OffC W w a n N np y mv q off) (hb : Below w.heap.size w w') : OffC W w' a n N np y mv q off := by
  obtain ⟨Kp, K, J, pm, H, ws, m, C, r, h0, h1, h2, h3, h4, h5, h6, h7⟩ := x
  refine ⟨Kp, K, J, pm, H, ws, m, C, r, h0.trans (hb.mono h0.size), h1.below hb, h2.below hb, h3, h4, h5, h6, ?_⟩
  cases mv with
  | none => exact h7
  | some y2 =>
    obtain ⟨K2, J2, m2, C2, r2, g1, g2, g7, g3, g4, g5, g6⟩ := h7
    exact ⟨K2, J2, m2, C2, r2, g1.below hb, g2, g7, g3, g4, g5, g6⟩
theorem OffC.more (x : OffC W w a n N np y mv q off) {n' q' : Nat} (hn : n ≤ n') (hq : q ≤ q') : OffC W w a n' N np y mv q' off := by
  obtain ⟨Kp, K, J, pm, H, ws, m, C, r, h0, h1, h2, h3, h4, h5, h6, h7⟩ := x
  refine ⟨Kp, K, J, pm, H, ws, m, C, r, h0, h1.more hn, h2, h3, by omega, h5, h6, ?_⟩
  cases mv with
  | none => exact h7
  | some y2 =>
    obtain ⟨K2, J2, m2, C2, r2, g1, g2, g7, g3, g4, g5, g6⟩ := h7
    exact ⟨K2, J2, m2, C2, r2, g1, g2, g7, g3, by omega, g5, g6⟩
theorem OffC.bel (x : OffC W w a n N np y mv q off) : Below W.heap.size W w := by
  obtain ⟨Kp, K, J, pm, H, ws, m, C, r, h0, h1, h2, h3, h4, h5, h6, h7⟩ := x
  exact h0
theorem OffC.on (x : OffC W w a n N np y mv q off) : Calls Tryd.prog 28 #[.pointer (some ⟨a, 0, none⟩)] w fun e w' => e = .returned (.bool (!off)) ∧ w = w' := by
  obtain ⟨Kp, K, J, pm, H, ws, m, C, r, h0, h1, h2, h3, h4, h5, h6, h7⟩ := x
  obtain ⟨F, hp, _⟩ := h1.inner
  have := on_any hp.at_
  rw [h6] at this
  exact this
/-- 'Boot'. -/
theorem OffC.boot (x : OffC W w a n N np y mv q off) (hn : n ≤ 800000000) (AK : Option Addr) (nk ck : Nat) (keep : List Int) (hk : IAt W AK keep) (hkl : keep.length = nk) (hnk : nk ≤ 9223372036854775807) :
    Calls Tryd.prog 27 #[.pointer (some ⟨a, 0, none⟩), .slice AK nk ck] w fun e w' => e = .returned (.tuple #[]) ∧ (BtA W w' a (n + 1) N np y q ∨ ∃ y2, mv = some y2 ∧ BtB W w' a (n + 1) N np y y2 q) := by
  obtain ⟨Kp, K, J, pm, H, ws, m, C, r, h0, h1, h2, h3, h4, h5, h6, h7⟩ := x
  refine (h1.boot h0.size hn AK nk ck keep (hk.below h0) hkl (fun hne ad e hK => ?_) hnk).mono ?_
  · have h8 := iat_block hk hne ad e
    have h9 := (h1.lt _ hK).1
    omega
  · rintro e w' ⟨pm', vs, he, ho, _, hv, hp, hm⟩
    have hbel := grow_below hm h1.lt h0.size h0
    have hA : Inv N (setAll vs H) [] m.drop C C → BtA W w' a (n + 1) N np y q := fun hi =>
      ⟨_, K, J, pm', _, m, C, r, hbel, hp, ho, h2.pager hm, h3, h4, h5, hi⟩
    refine ⟨he, ?_⟩
    cases mv with
    | none => exact .inl (hA (h7 vs hv))
    | some y2 =>
      obtain ⟨K2, J2, m2, C2, r2, g1, g2, g7, g3, g4, g5, g6⟩ := h7
      rcases g6 vs hv with hi | hi
      · exact .inl (hA hi)
      · exact .inr ⟨y2, rfl, _, K, J, K2, J2, pm', _, m, C, m2, C2, r, r2, hbel, hp, ho, h2.pager hm, g1.pager hm, g2, g7, h3, h5, g3, g4, g5, hi⟩
def noZ : Nat → Prop := fun _ => False
theorem noZ_ok : ZOk w noZ Kp K J := fun _ h => h.elim
/-- 'Open' behind a boot. -/
theorem BtA.opened (x : BtA W w a n N np y q) (hn : n ≤ 800000000) (ht : TabB W.heap.size W) (hq : min ((N - 2) / 8) 384 = np) :
    Calls Tryd.prog 12 #[.pointer (some ⟨a, 0, none⟩), .int .i64 0] w fun e w' => ∃ (g : Nat) (M : PgM) (D : Nat → List UInt8) (r : RM), e = .returned (.tuple #[.pointer (some ⟨g, 0, none⟩), .int .i64 0]) ∧ OnC W w' noZ a n N g M.drop D D y r ∧ RSim r.drop M.drop D D ∧ M.gen ≤ q ∧ M.pages = np := by
  obtain ⟨Kp, K, J, pm, H, M, D, r, h0, h1, h2, h3, h4, h5, h6, h7⟩ := x
  refine (h1.opened h7 h0.size hn h2 (ht.below h0 (Nat.le_refl _)) (hq.trans h6.symm)).mono ?_
  rintro e w' ⟨g, he, hp, hi, hb⟩
  exact ⟨g, M, D, r, he, ⟨_, K, J, pm, H, [], ⟨h0.trans (hb.mono h0.size), hp, hi, h3.pager (Mods.of_below hb)⟩, h2, noZ_ok⟩, h4, h5, h6⟩
theorem BtB.opened (x : BtB W w a n N np y y2 q) (hn : n ≤ 800000000) (ht : TabB W.heap.size W) (hq : min ((N - 2) / 8) 384 = np) :
    Calls Tryd.prog 12 #[.pointer (some ⟨a, 0, none⟩), .int .i64 0] w fun e w' => ∃ (g : Nat) (m M : PgM) (C D : Nat → List UInt8) (r r2 : RM), e = .returned (.tuple #[.pointer (some ⟨g, 0, none⟩), .int .i64 0]) ∧ On3 W w' noZ a n N g M.drop D D y r y2 r2 ∧ RSim r.drop m.drop C C ∧ m.pages = np ∧ RSim r2.drop M.drop D D ∧ M.gen ≤ q ∧ M.pages = np := by
  obtain ⟨Kp, K, J, K2, J2, pm, H, m, C, M, D, r, r2, h0, h1, h2, h3, g1, g2, g7, h4, h4p, h4b, h5, h6, h7⟩ := x
  refine (h1.opened h7 h0.size hn h2 (ht.below h0 (Nat.le_refl _)) (hq.trans h6.symm)).mono ?_
  rintro e w' ⟨g, he, hp, hi, hb⟩
  exact ⟨g, m, M, C, D, r, r2, he, ⟨_, K, J, K2, J2, pm, H, [], ⟨h0.trans (hb.mono h0.size), hp, hi, h3.pager (Mods.of_below hb)⟩, h2, noZ_ok, g1.pager (Mods.of_below hb), g2, noZ_ok, g7⟩, h4, h4p, h4b, h5, h6⟩
/-- 'alike' of the first, of which it is not known whether it is. -/
theorem On3.alike (x : On3 W w Z a n N g m T C y r y2 r2) (hp : r.pages = m.pages) (hl : ∀ b ∈ r.b, b.length ≤ 100000000) (h38 : m.pages ≤ 38) (hn : n ≤ 800000000) (ht : TabB W.heap.size W) :
    Calls Tryd.prog 21 #[.pointer (some ⟨g, 0, none⟩), .pointer (some ⟨y, 0, none⟩)] w fun e w' => Below w.heap.size w w' ∧ (e = .returned (.bool false) ∨
      (e = .returned (.bool true) ∧ r.root = m.root ∧ ∀ k : Nat, k < m.pages → r.used (k : Int) = m.inUse (k : Int) ∧ r.text (k : Int) = if m.inUse (k : Int) then T k else [])) := by
  obtain ⟨Kp, K, J, K2, J2, pm, H, ws, h, h1, h3, h4, h5, h6, h9⟩ := x
  exact alike_gen h.pg h.inv h.hB hn h1 (ht.below h.bel (Nat.le_refl _)) h.ref.ref hp hl h38
end
end Go.Proofs.YtookhagpgkefpaaDoor.Pag
/- The plant of the law 'PagerPlays': two disks and a tape. -/
namespace Go.Proofs.YtookhagpgkefpaaDoor.Pag
open Go Go.RowKit Mem Pl Disk Crc _root_.Go.Proofs.YtookhagpgkefpaaDoor.Frame
def playPM (n : Nat) : PM := { disks := [5, n], tapes := [9], devs := newDevs [5, n] [9], waits := [], off := false, fuse := none, steps := 0, now := 0 }
theorem playPM_new {n : Nat} (h1 : 1 ≤ n) (h2 : n ≤ 4096) : newM [5, (n : Int)] [9] = some (playPM n) := by
  unfold newM playPM
  have a1 : ¬ ((n : Int) < 1) := by omega
  have a2 : ¬ (4096 < (n : Int)) := by omega
  simp [a1, a2]
theorem playPM_none {z : Int} (h : z < 1) : newM [5, z] [9] = none := by
  unfold newM
  simp [h]
theorem playPM_disk (n : Nat) : Disk (playPM n) 1 n (List.replicate n zeros) [] := ⟨rfl, rfl⟩
/-- Neither the tape's number nor one past the end has pages. -/
theorem playPM_two (n : Nat) : pagesM (playPM n).disks 2 = 0 := by unfold pagesM playPM; simp
theorem playPM_nine (n : Nat) : pagesM (playPM n).disks 9 = 0 := by unfold pagesM playPM; simp
theorem playPM_small {n : Nat} (h : n < 10) : pagesM (playPM n).disks 1 = 0 := by
  unfold pagesM playPM
  simp
  omega
/-- 'Format' of what has no pages. -/
theorem Pd1.formatNo {B : Nat} {w : World} {K : Nat → Prop} {a : Nat} {pm : PM} {n dev N : Nat} {H : List (List UInt8)} {ws : Ws} (x : Pd1 B w K a pm n dev N H ws) (d : Int) (h0 : pagesM pm.disks d = 0) :
    Calls Tryd.prog 10 #[.pointer (some ⟨a, 0, none⟩), .int .i64 d] w fun e w' => e = .returned (.int .i64 1) ∧ Pd1 B w' K a pm n dev N H ws ∧ Below w.heap.size w w' := by
  obtain ⟨F, h, hF⟩ := x.inner
  refine (format_no h.at_ h.ok d h0).mono ?_
  rintro e w' ⟨rfl, hb⟩
  exact ⟨rfl, x.below hb, hb⟩
theorem made_play {B : Nat} {w w1 : World} (s : Int) (hs : s ≤ 400) (hB : B ≤ w.heap.size) (hw : w1 = (w.alloc (.cells #[.int .i64 5, .int .i64 s] 3)).alloc (.cells #[.int .i64 9] 3)) :
    Calls Tryd.prog 9 #[.agg #[.slice (some ⟨w.heap.size, 0, none⟩) 2 2, .slice (some ⟨w.heap.size + 1, 0, none⟩) 1 1]] w1 fun e w' => Below w.heap.size w w' ∧
      ((s < 1 ∧ e = .returned (.tuple #[.pointer none, .int .i64 30])) ∨ ∃ (n a : Nat), s = (n : Int) ∧ 1 ≤ n ∧ n ≤ 400 ∧ e = .returned (.tuple #[.pointer (some ⟨a, 0, none⟩), .int .i64 0]) ∧ Pd1 B w' (Grow (fun _ => False) w w') a (playPM n) 0 1 n (List.replicate n zeros) []) := by
  subst hw
  have hb1 := below_al' (w := w) (.cells #[.int .i64 5, .int .i64 s] 3)
  have hb2 := below_al' (w := w.alloc (.cells #[.int .i64 5, .int .i64 s] 3)) (.cells #[.int .i64 9] 3)
  have i1 : IAt ((w.alloc (.cells #[.int .i64 5, .int .i64 s] 3)).alloc (.cells #[.int .i64 9] 3)) (some ⟨w.heap.size, 0, none⟩) [5, s] := (iat_row w [5, s] _ rfl 3).below hb2
  have i2 : IAt ((w.alloc (.cells #[.int .i64 5, .int .i64 s] 3)).alloc (.cells #[.int .i64 9] 3)) (some ⟨(w.alloc (.cells #[.int .i64 5, .int .i64 s] 3)).heap.size, 0, none⟩) [9] := iat_row (w.alloc (.cells #[.int .i64 5, .int .i64 s] 3)) [9] _ rfl 3
  have hsz : (w.alloc (.cells #[.int .i64 5, .int .i64 s] 3)).heap.size = w.heap.size + 1 := by simp
  rw [hsz] at i2
  have hn := new_any ((w.alloc (.cells #[.int .i64 5, .int .i64 s] 3)).alloc (.cells #[.int .i64 9] 3)) (some ⟨w.heap.size, 0, none⟩) (some ⟨w.heap.size + 1, 0, none⟩) 2 1 2 1 [5, s] [9] i1 i2 rfl rfl (by omega) (by omega)
  have hbb := hb1.trans (hb2.mono hb1.size)
  by_cases h1 : s < 1
  · rw [playPM_none h1] at hn
    refine hn.mono ?_
    rintro e w' ⟨hb, ⟨_, h⟩ | ⟨a, p, h, _⟩⟩
    · exact ⟨hbb.trans (hb.mono hbb.size), .inl ⟨h1, h⟩⟩
    · cases h
  · obtain ⟨n, rfl⟩ := Int.eq_ofNat_of_zero_le (show 0 ≤ s by omega)
    rw [playPM_new (by omega) (by omega)] at hn
    refine hn.mono ?_
    rintro e w' ⟨hb, ⟨h, _⟩ | ⟨a, p, h, rfl, hp⟩⟩
    · cases h
    injection h with h
    subst h
    have hst := St.new hp (Nat.le_trans hB hbb.size) (playPM_new (n := n) (by omega) (by omega))
    exact ⟨hbb.trans (hb.mono hbb.size), .inr ⟨n, a, rfl, by omega, by omega, rfl, ⟨⟨_, hst, fun k hk => .inr ⟨Nat.le_trans hbb.size hk.1, hk.2⟩⟩, playPM_disk n, fun k hk => hk.elim False.elim fun hk => ⟨Nat.le_trans hB hk.1, hk.2⟩⟩⟩⟩
end Go.Proofs.YtookhagpgkefpaaDoor.Pag
