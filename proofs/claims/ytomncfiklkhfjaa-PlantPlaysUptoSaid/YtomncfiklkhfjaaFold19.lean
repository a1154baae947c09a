/- What 'settle' does to the reference's memory. -/
import Derived.Test.YtomncfiklkhfjaaFold16
import Derived.Test.YtomncfiklkhfjaaFold5
import Derived.Deep.QuietTactic
import Derived.BigQuiet
namespace Go.Proofs.Ytomncfiklkhfjaa.Ref
open Go Go.RowKit Mem Pl
variable {S : Nat → Prop}
section
variable {P : Program} {F F' G : Nat → Prop} {w w' w1 : World} {e : TypeId} {size n : Nat} {v : Value} {xs : List Value}
/-- Only the slice's own block matters. -/
theorem vec_keep (h : Vec w F e size v n xs) (hk : ∀ (g : Nat) (o : Obj), v.ownBlock = some g → w.heap[g]? = some o → w'.heap[g]? = some o) : Vec w' F e size v n xs := by
  obtain ⟨A, cap, rfl, h1, h2⟩ := h
  refine ⟨A, cap, rfl, h1, ?_⟩
  rcases h2 with h2 | ⟨g, cur, rfl, h3, h4, h5⟩
  · exact .inl h2
  · exact .inr ⟨g, cur, rfl, h3, hk g _ rfl h4, h5⟩
/-- 'append' onto such a slice; where what comes out lies. -/
theorem run_append_vec2 (t ty : TypeId) (bytes : Nat) (z : Value) (T : ElTy P t e size bytes z) (hv : Vec w F e size v n xs)
    (ad : Addr) (m d : Nat) (news : List Value) (hl : news.length = m * size) (hnews : ∀ j u, news[j]? = some u → w.cell? (ad.add j) = some u) (h1 : ∀ u ∈ news, u.oneCell' = true)
    (hm : n + m ≤ maxLen) (hbytes : (n + m) * bytes ≤ 140737488355328) (hm0 : 0 < m) :
    ∃ v' w' row, (Builtin.append_ #[t, t] ty #[v, .slice (some ad) m d]).run P w = .ok v' w' ∧ Vec w' (Grow F w w') e size v' (n + m) (xs ++ news) ∧ w.grownBy w' row ∧
      (row = none ∨ ∃ g cs, row = some g ∧ F g ∧ w.heap[g]? = some (.cells cs e (0, 0)) ∧ v.ownBlock = some g) ∧ (v'.ownBlock = v.ownBlock ∨ v'.ownBlock = some w.heap.size) := by
  obtain ⟨i, hi, hz, hs, hby⟩ := T.info
  obtain ⟨A, cap, rfl, hlen, ⟨rfl, rfl⟩ | ⟨g, cur, rfl, hf, hh, hnc, hcm, hcs, htk⟩⟩ := hv
  · have hx : xs = [] := List.eq_nil_of_length_eq_zero (by simpa using hlen)
    subst hx
    rcases A with _ | ⟨ad0⟩
    · obtain ⟨v', w', hrun, h2, h3, _, h5⟩ := run_append_own_at (P := P) w w.heap.size t ty e i z size bytes T.ht hi hz hs hby T.hz T.h0 (.slice none 0 0) 0 [] (World.ownsRow_nil w _ e size) ad m d news hl hnews h1 (by omega) (by simpa using hbytes) (Nat.le_refl _)
      have hA : ∃ A' c', v' = .slice A' (0 + m) c' := by
        rcases h2.2 with ⟨h, h0⟩ | ⟨g, cap, cur, h, _⟩
        · exact ⟨none, 0, by rw [h, h0]⟩
        · exact ⟨_, _, h⟩
      obtain ⟨A', c', rfl⟩ := hA
      exact ⟨_, w', none, hrun, Vec.of_own h2 (fun g hg hg' => .inr ⟨hg, hg'⟩), h3, .inl rfl, h5⟩
    · subst hs hby
      have hr := run_append_grow (P := P) w t ty e i z T.ht hi hz ad0 0 0 [] (by simp) (by simp) ad m d news hl hnews (by omega) (by unfold maxLen at hm; omega) (growslice_fits (by omega) (by simpa using hbytes))
      refine ⟨_, _, none, hr, ?_, ⟨rfl, rfl, rfl, by simp, fun k hk _ => Below.heap_alloc w.drew _ k hk⟩, .inl rfl, .inr rfl⟩
      have hge := grownCap_ge w (0 + m) 0 e
      have hcm : grownCap w (0 + m) 0 e ≤ maxLen := grownCap_le_maxLen w (0 + m) 0 e hm
      refine ⟨_, _, rfl, by simpa using hl, .inr ⟨w.heap.size, _, rfl, .inr ⟨Nat.le_refl _, by simp⟩, heap_alloc_new w.drew _, hge, hcm, ?_, ?_⟩⟩
      · simp only [Array.size_append, List.size_toArray, size_zeroCells, T.hz, hl, List.length_nil, Nat.zero_add, ← Nat.add_mul]
        congr 1
        simp only [Nat.zero_add] at hge ⊢
        omega
      · simp only [Array.toList_append, List.append_assoc, List.nil_append, Nat.zero_add]
        rw [← hl]
        exact List.take_left
  · obtain ⟨v', w', hrun, h2, h3, _, h5⟩ := run_append_own_at (P := P) w (min g w.heap.size) t ty e i z size bytes T.ht hi hz hs hby T.hz T.h0 (.slice (some ⟨g, 0, none⟩) n cap) n xs
      ⟨hlen, .inr ⟨g, cap, cur, rfl, Nat.min_le_left _ _, hh, hnc, hcm, hcs, htk⟩⟩ ad m d news hl hnews h1 hm hbytes (Nat.min_le_right _ _)
    refine ⟨v', w', some g, hrun, ?_, h3, .inr ⟨g, cur, rfl, hf, hh, rfl⟩, h5⟩
    rcases h2.2 with ⟨h, h0⟩ | ⟨g', cap', cur', h, _, hh', hr⟩
    · subst h
      exact ⟨none, 0, by rw [h0], h2.1, .inl ⟨h0, rfl⟩⟩
    · subst h
      refine ⟨_, _, rfl, h2.1, .inr ⟨g', cur', rfl, ?_, hh', hr⟩⟩
      have hlt := (Array.getElem?_eq_some_iff.1 hh').1
      rcases h5 with h5 | h5
      · simp [Value.ownBlock] at h5
        subst h5
        exact .inl hf
      · simp [Value.ownBlock] at h5
        subst h5
        exact .inr ⟨Nat.le_refl _, hlt⟩
theorem wpList_append_vec2 {ops : Array Oper} {rest : List Oper} {o : Oper} {a : Act} {Q : Exit → Act → World → Prop} (hgd : o.guard = none) (s x : Operand) (t : TypeId)
    (ho : o.op = .call { callee := .builtin .append, args := #[s, x], argTypes := #[t, t] }) (bytes : Nat) (z : Value) (T : ElTy P t e size bytes z)
    (hs : a.eval s = v) (hv : Vec w F e size v n xs)
    (ad : Addr) (m d : Nat) (news : List Value) (hx : a.eval x = .slice (some ad) m d) (hl : news.length = m * size) (hnews : ∀ j u, news[j]? = some u → w.cell? (ad.add j) = some u) (h1 : ∀ u ∈ news, u.oneCell' = true)
    (hm : n + m ≤ maxLen) (hbytes : (n + m) * bytes ≤ 140737488355328) (hm0 : 0 < m)
    (h : ∀ v' w' row, Vec w' (Grow F w w') e size v' (n + m) (xs ++ news) → w.grownBy w' row → (row = none ∨ ∃ g cs, row = some g ∧ F g ∧ w.heap[g]? = some (.cells cs e (0, 0)) ∧ v.ownBlock = some g) → (v'.ownBlock = v.ownBlock ∨ v'.ownBlock = some w.heap.size) →
      wpList P ops Q rest (a.put o.dst v') w') : wpList P ops Q (o :: rest) a w :=
  wpList_plain hgd fun _ hK => by
    obtain ⟨v', w', row, hrun, h2, h3, h4, h5⟩ := run_append_vec2 (P := P) t o.type bytes z T hv ad m d news hl hnews h1 hm hbytes hm0
    unfold Oper.wp execOp
    simp only [ho, resolve, invoke, builtin, Sem.run_bind, Sem.run_pure, Result.andThen_ok, List.map_toArray, List.map_cons, List.map_nil, hs, hx, hrun]
    exact hK _ _ (h v' w' row h2 h3 h4 h5)
end
section
variable {w w' w5 : World} {F F' : Nat → Prop} {r : Nat} {p q : PM} {left : Int} {D T V W v : Value} {hs : List (List (List UInt8))} {l l' : List (List UInt8)} {b : List UInt8}
/-- A sector of one row is another. -/
theorem HasAt.setSec {j k g n c : Nat} {rows : List Value} (h1 : Vec w F 79 1 V hs.length rows) (h2 : ∀ (i : Nat) (l : List (List UInt8)), hs[i]? = some l → ∃ v, rows[i]? = some v ∧ RowAt S w F v l)
    (h3 : ∀ (i j g : Nat), (rows[i]?).bind Value.ownBlock = some g → (rows[j]?).bind Value.ownBlock = some g → i = j) (h4 : ∀ (i g : Nat), (rows[i]?).bind Value.ownBlock = some g → F g ∧ g < w.heap.size)
    (hl : hs[j]? = some l) (hr : rows[j]? = some (.slice (some ⟨g, 0, none⟩) n c)) (hk : k < l.length) (hs' : SecOk S w b v) : HasAt S (w.setCell ⟨g, k, none⟩ v) F V (hs.set j (l.set k b)) := by
  obtain ⟨u, h5, h6⟩ := h2 j l hl
  rw [hr] at h5
  injection h5 with h5
  subst h5
  obtain ⟨vs, hv, hsec⟩ := h6
  obtain ⟨A0, c0, e0⟩ := hv.shape
  injection e0 with e1 e2 e3
  subst e2
  obtain ⟨hfg, cur, hcur⟩ := hv.blockF (by omega)
  have hty : ∀ (t : TypeId), t ≠ 28 → ∀ (g' : Nat) (cs : Array Value), w.heap[g']? = some (Obj.cells cs t (0, 0)) → (w.setCell ⟨g, k, none⟩ v).heap[g']? = some (Obj.cells cs t (0, 0)) := fun t ht g' cs hh =>
    Blk.far (w := w) (g := g') (t := t) (cs := cs) hh (p := ⟨g, k, none⟩) (Blk.ne_ (w := w) (g := g') (t := t) (cs := cs) (g' := g) (t' := 28) (cs' := cur) hh hcur ht) v
  have hkb : BytesKept w (w.setCell ⟨g, k, none⟩ v) := ⟨hty _ (by decide), hty _ (by decide)⟩
  have hsz : (w.setCell ⟨g, k, none⟩ v).heap.size = w.heap.size := by simp
  refine ⟨rows, by rw [List.length_set]; exact h1.heap (hty _ (by decide)), fun i l' hl' => ?_, h3, fun i g' hg' => by rw [hsz]; exact h4 i g' hg'⟩
  rw [List.getElem?_set] at hl'
  by_cases hij : j = i
  · subst hij
    rw [if_pos rfl] at hl'
    split at hl'
    · injection hl' with hl'
      subst hl'
      refine ⟨_, hr, vs.set k v, by rw [List.length_set]; exact hv.set k v, fun k' b' hb' => ?_⟩
      rw [List.getElem?_set] at hb'
      by_cases hkk : k = k'
      · subst hkk
        rw [if_pos rfl, if_pos hk] at hb'
        injection hb' with hb'
        subst hb'
        have hvl := hv.len
        exact ⟨v, by rw [List.getElem?_set, if_pos rfl, if_pos (by omega)], hs'.keep hkb⟩
      · rw [if_neg hkk] at hb'
        obtain ⟨u, h7, h8⟩ := hsec k' b' hb'
        exact ⟨u, by rw [List.getElem?_set, if_neg hkk]; exact h7, h8.keep hkb⟩
    · cases hl'
  · rw [if_neg hij] at hl'
    obtain ⟨u, h7, vs', h8, h9⟩ := h2 i l' hl'
    refine ⟨u, h7, vs', vec_keep h8 fun g' o ho hh => ?_, fun k' b' hb' => (h9 k' b' hb').imp fun u x => ⟨x.1, x.2.keep hkb⟩⟩
    have hne : g' ≠ g := by
      rintro rfl
      exact hij (h3 j i g' (by rw [hr]; rfl) (by rw [h7]; exact ho))
    exact (Below.heap_setCell w ⟨g, k, none⟩ v g' hne).trans hh
/-- A row is another: it grew. -/
theorem HasAt.setRow {j gH : Nat} {n c : Nat} {rows : List Value} {row : Option Nat} {u v' : Value} (h1 : Vec w F 79 1 (.slice (some ⟨gH, 0, none⟩) n c) hs.length rows) (h2 : ∀ (i : Nat) (l : List (List UInt8)), hs[i]? = some l → ∃ v, rows[i]? = some v ∧ RowAt S w F v l)
    (h3 : ∀ (i j g : Nat), (rows[i]?).bind Value.ownBlock = some g → (rows[j]?).bind Value.ownBlock = some g → i = j) (h4 : ∀ (i g : Nat), (rows[i]?).bind Value.ownBlock = some g → F g ∧ g < w.heap.size)
    (hj : j < hs.length) (hr : rows[j]? = some u) (hg : w.grownBy w5 row) (hrow : row = none ∨ ∃ g cs, row = some g ∧ F g ∧ w.heap[g]? = some (Obj.cells cs 28 (0, 0)) ∧ u.ownBlock = some g)
    (ho : v'.ownBlock = u.ownBlock ∨ v'.ownBlock = some w.heap.size) (hv : RowAt S w5 (Grow F w w5) v' l') (hlt : ∀ g, v'.ownBlock = some g → g < w5.heap.size) :
    HasAt S (w5.setCell ⟨gH, j, none⟩ v') (Grow F w (w5.setCell ⟨gH, j, none⟩ v')) (.slice (some ⟨gH, 0, none⟩) n c) (hs.set j l') := by
  have hr' : row = none ∨ ∃ g cs, row = some g ∧ w.heap[g]? = some (Obj.cells cs 28 (0, 0)) := hrow.imp id fun ⟨g, cs, x, _, y, _⟩ => ⟨g, cs, x, y⟩
  have hk5 := fun (t : TypeId) (ht : t ≠ 28) => keep_ty hg hr' ht
  have h15 := h1.heap (hk5 _ (by decide))
  obtain ⟨A0, c0, e0⟩ := h1.shape
  injection e0 with e1 e2 e3
  subst e2
  obtain ⟨hfg, cur, hcur⟩ := h15.blockF (by omega)
  have hty : ∀ (t : TypeId), t ≠ 79 → ∀ (g' : Nat) (cs : Array Value), w5.heap[g']? = some (Obj.cells cs t (0, 0)) → (w5.setCell ⟨gH, j, none⟩ v').heap[g']? = some (Obj.cells cs t (0, 0)) := fun t ht g' cs hh =>
    Blk.far (w := w5) (g := g') (t := t) (cs := cs) hh (p := ⟨gH, j, none⟩) (Blk.ne_ (w := w5) (g := g') (t := t) (cs := cs) (g' := gH) (t' := 79) (cs' := cur) hh hcur ht) v'
  have hsz : (w5.setCell ⟨gH, j, none⟩ v').heap.size = w5.heap.size := by simp
  have hsz5 := hg.size
  have hF5 : ∀ g, Grow F w w5 g → Grow F w (w5.setCell ⟨gH, j, none⟩ v') g := fun g h => h.imp id fun h => ⟨h.1, by rw [hsz]; exact h.2⟩
  have hrl := h1.len
  have hget : ∀ i, (rows.set j v')[i]? = if j = i then some v' else rows[i]? := fun i => by
    rw [List.getElem?_set]
    by_cases hij : j = i
    · rw [if_pos hij, if_pos hij, if_pos (by omega)]
    · rw [if_neg hij, if_neg hij]
  refine ⟨rows.set j v', by rw [List.length_set]; exact (h15.mono fun g _ h => .inl h).set j v', fun i l hl => ?_, fun a b g ha hb => ?_, fun i g hi => ?_⟩
  · rw [hget]
    rw [List.getElem?_set] at hl
    by_cases hij : j = i
    · rw [if_pos hij]
      rw [if_pos hij, if_pos hj] at hl
      injection hl with hl
      subst hl
      exact ⟨v', rfl, (hv.heap (hty _ (by decide)) ⟨hty _ (by decide), hty _ (by decide)⟩).mono fun g _ h => hF5 g h⟩
    · rw [if_neg hij]
      rw [if_neg hij] at hl
      obtain ⟨y, h7, vs', h8, h9⟩ := h2 i l hl
      have hk8 : BytesKept w w5 := ⟨hk5 _ (by decide), hk5 _ (by decide)⟩
      have hrw : RowAt S w5 F y l := ⟨vs', vec_keep h8 fun g' o ho' hh => by
        refine (hg.block g' (lt_heap hh) ?_).trans hh
        rcases hrow with rfl | ⟨g0, cs, rfl, _, _, hu⟩
        · simp
        · intro e
          injection e with e
          subst e
          exact hij (h3 j i g' (by rw [hr]; exact hu) (by rw [h7]; exact ho')), fun k' b' hb' => (h9 k' b' hb').imp fun u x => ⟨x.1, x.2.keep hk8⟩⟩
      exact ⟨y, h7, (hrw.heap (hty _ (by decide)) ⟨hty _ (by decide), hty _ (by decide)⟩).mono fun g _ h => .inl h⟩
  · have hone : ∀ (i g : Nat), i ≠ j → (rows[i]?).bind Value.ownBlock = some g → v'.ownBlock ≠ some g := fun i g hne hi hv => by
      rcases ho with ho | ho
      · rw [ho] at hv
        exact hne (h3 i j g hi (by rw [hr]; exact hv))
      · rw [ho] at hv
        injection hv with hv
        subst hv
        exact absurd (h4 i _ hi).2 (Nat.lt_irrefl _)
    rw [hget] at ha hb
    by_cases hja : j = a
    · by_cases hjb : j = b
      · omega
      · rw [if_pos hja] at ha
        rw [if_neg hjb] at hb
        exact absurd ha (hone b g (fun h => hjb h.symm) hb)
    · by_cases hjb : j = b
      · rw [if_neg hja] at ha
        rw [if_pos hjb] at hb
        exact absurd hb (hone a g (fun h => hja h.symm) ha)
      · rw [if_neg hja] at ha
        rw [if_neg hjb] at hb
        exact h3 a b g ha hb
  · rw [hget] at hi
    rw [hsz]
    split at hi
    · have h5 := hlt g hi
      refine ⟨?_, h5⟩
      rcases ho with ho | ho
      · have hi' : v'.ownBlock = some g := hi
        rw [ho] at hi'
        exact .inl (h4 j g (by rw [hr]; exact hi')).1
      · have hi' : v'.ownBlock = some g := hi
        rw [ho] at hi'
        injection hi' with hi'
        subst hi'
        exact .inr ⟨Nat.le_refl _, by rw [hsz]; exact h5⟩
    · exact ⟨.inl (h4 i g hi).1, Nat.lt_of_lt_of_le (h4 i g hi).2 hsz5⟩
end
end Go.Proofs.Ytomncfiklkhfjaa.Ref
/- The reference's settle. -/
namespace Go.Proofs.Ytomncfiklkhfjaa.Ref
open Go Go.RowKit Mem Pl
variable {S : Nat → Prop}
theorem settle_has (ds : List Dev) (x : Wr) (d : Dev) (hd : ds[x.dev]? = some d) : (Pl.settle ds x).map (·.has) = (ds.map (·.has)).set x.dev (d.settle x.place x.b).has := by
  unfold Pl.settle
  refine List.ext_getElem? fun i => ?_
  rw [List.getElem?_map, List.getElem?_modify, List.getElem?_set, List.getElem?_map]
  by_cases h : x.dev = i
  · subst h
    have hl := (List.getElem?_eq_some_iff.1 hd).1
    rw [if_pos rfl, if_pos (by simpa using hl), hd]
    simp
  · rw [if_neg h]
    cases ds[i]? <;> simp [h]
section
variable {w w' : World} {F : Nat → Prop} {r : Nat} {p q : PM} {left : Int} {D T V W : Value}
theorem RefB.mono {G : Nat → Prop} (h : RefB S w F r p left D T V W) (hF : ∀ g, g < w.heap.size → F g → G g) : RefB S w G r p left D T V W :=
  ⟨h.blk, hF r h.blk.lt h.own, h.hleft, h.lrange, h.disks, h.tapes, h.has.mono hF, h.waits.mono hF⟩
/-- The sectors are others. -/
theorem RefB.putV (h : RefB S w F r p left D T V W) (hq : q.disks = p.disks ∧ q.tapes = p.tapes ∧ q.waits = p.waits ∧ q.off = p.off ∧ q.fuse = p.fuse ∧ q.steps = p.steps ∧ q.now = p.now)
    (hk : ∀ (t : TypeId), t ≠ 28 → t ≠ 79 → ∀ (g : Nat) (cs : Array Value), w.heap[g]? = some (Obj.cells cs t (0, 0)) → w'.heap[g]? = some (Obj.cells cs t (0, 0)))
    (hH : HasAt S w' (Grow F w w') V (q.devs.map (·.has))) : RefB S w' (Grow F w w') r q left D T V W := by
  obtain ⟨q1, q2, q3, q4, q5, q6, q7⟩ := hq
  have hcells : rfCells D T V W left q = rfCells D T V W left p := by unfold rfCells; rw [q4, q5, q6, q7]
  refine ⟨by rw [hcells]; exact hk _ (by decide) (by decide) r _ h.blk, .inl h.own, by rw [q5]; exact h.hleft, h.lrange, ?_, ?_, hH, ?_⟩
  · rw [q1]; exact h.disks.heap (hk _ (by decide) (by decide))
  · rw [q2]; exact h.tapes.heap (hk _ (by decide) (by decide))
  · rw [q3]; exact (h.waits.heap (hk _ (by decide) (by decide)) ⟨hk _ (by decide) (by decide), hk _ (by decide) (by decide)⟩).mono fun g _ hg => .inl hg
/-- 'append' onto a row, one operation. -/
theorem wp_append_vec2 {P : Program} {e : TypeId} {size n : Nat} {v : Value} {xs : List Value} {o : Oper} {a : Act} {K : Act → World → Prop} {Q : Exit → Act → World → Prop} (s x : Operand) (t : TypeId)
    (ho : o.op = .call { callee := .builtin .append, args := #[s, x], argTypes := #[t, t] }) (bytes : Nat) (z : Value) (T : ElTy P t e size bytes z)
    (hs : a.eval s = v) (hv : Vec w F e size v n xs)
    (ad : Addr) (m d : Nat) (news : List Value) (hx : a.eval x = .slice (some ad) m d) (hl : news.length = m * size) (hnews : ∀ j u, news[j]? = some u → w.cell? (ad.add j) = some u) (h1 : ∀ u ∈ news, u.oneCell' = true)
    (hm : n + m ≤ maxLen) (hbytes : (n + m) * bytes ≤ 140737488355328) (hm0 : 0 < m)
    (h : ∀ v' w' row, Vec w' (Grow F w w') e size v' (n + m) (xs ++ news) → w.grownBy w' row → (row = none ∨ ∃ g cs, row = some g ∧ F g ∧ w.heap[g]? = some (.cells cs e (0, 0)) ∧ v.ownBlock = some g) → (v'.ownBlock = v.ownBlock ∨ v'.ownBlock = some w.heap.size) →
      K (a.put o.dst v') w') : o.wp P a w K Q := by
  obtain ⟨v', w', row, hrun, h2, h3, h4, h5⟩ := run_append_vec2 (P := P) t o.type bytes z T hv ad m d news hl hnews h1 hm hbytes hm0
  unfold Oper.wp execOp
  simp only [ho, resolve, invoke, builtin, Sem.run_bind, Sem.run_pure, Result.andThen_ok, List.map_toArray, List.map_cons, List.map_nil, hs, hx, hrun]
  exact h v' w' row h2 h3 h4 h5
end
set_option maxRecDepth 100000 in
set_option maxHeartbeats 4000000 in
theorem settle_any {w : World} {F : Nat → Prop} {r : Nat} {p : PM} {left : Int} {D T V W : Value} (h : RefB S w F r p left D T V W) (x : Wr) (d : Dev) (hd : p.devs[x.dev]? = some d) (ht : d.tape = decide (p.disks.length ≤ x.dev)) (hpl : d.tape = false → x.place < d.has.length) (hlen : d.has.length ≤ 1000000) (hn : p.devs.length ≤ 12) (hp : x.place ≤ 1000000)
    (v : Value) (hv : SecOk S w x.b v) :
    Calls Try.prog 79 #[.pointer (some ⟨r, 0, none⟩), .agg #[.int .i64 (x.dev : Int), .int .i64 (x.place : Int), v]] w fun e w' => e = .returned (.tuple #[]) ∧ RefB S w' (Grow F w w') r { p with devs := Pl.settle p.devs x } left D T V W ∧ RMods F w w' := by
  obtain ⟨Av, cv, rfl, _, _⟩ := hv.slice
  have hbA : Below w.heap.size w (w.alloc (.cells #[.int .i64 (x.dev : Int), .int .i64 (x.place : Int), .slice Av 64 cv] 112)) := below_al' _
  have hR := h.below hbA
  have HSV := Lib.hid (hv.below hbA)
  have hblk := Blk.new w 112 #[.int .i64 (x.dev : Int), .int .i64 (x.place : Int), .slice Av 64 cv]
  have e0 := (hblk.cell 0).trans (show _ = some (.int .i64 (x.dev : Int)) from rfl)
  have e1 := (hblk.cell 1).trans (show _ = some (.int .i64 (x.place : Int)) from rfl)
  have e2 := (hblk.cell 2).trans (show _ = some (.slice Av 64 cv) from rfl)
  have HBK := Lib.hid hblk
  have HBA := Lib.hid hbA
  have hgL : w.heap.size < (w.alloc (.cells #[.int .i64 (x.dev : Int), .int .i64 (x.place : Int), .slice Av 64 cv] 112)).heap.size := hblk.lt
  have HG : Hid (w.heap.size < (w.alloc (.cells #[.int .i64 (x.dev : Int), .int .i64 (x.place : Int), .slice Av 64 cv] 112)).heap.size) := Lib.hid hgL
  have HDK := Lib.hid (fun q : Nat => (disks_any (hR.below (below_drewN (Below.refl _ _) q))).mono fun e w' x => (⟨x.1, x.2.symm⟩ : _ ∧ _))
  obtain ⟨AV, cV, rfl⟩ := h.has.shape
  obtain ⟨rows, hv1, hv2, hv3, hv4⟩ := hR.has
  obtain ⟨u, hu1, hu2⟩ := hv2 _ _ (devs_has hd)
  obtain ⟨A', c', rfl⟩ := hu2.shape
  obtain ⟨gH, hA, hcell⟩ := hv1.cell x.dev _ hu1
  subst hA
  have h2 := hR.c2
  have hml : (p.devs.map (·.has)).length = p.devs.length := by simp
  have hxd : x.dev < p.devs.length := (List.getElem?_eq_some_iff.1 hd).1
  have HSE : Hid ((Pl.settle p.devs x).map (·.has) = (p.devs.map (·.has)).set x.dev (d.settle x.place x.b).has) := Lib.hid (settle_has _ _ _ hd)
  rw [hml] at h2
  have hxI : (x.dev : Int) < (p.devs.length : Int) := by omega
  have HR := Lib.hid hR
  have HV1 := Lib.hid hv1
  have HV2 := Lib.hid hv2
  have HV3 := Lib.hid hv3
  have HV4 := Lib.hid hv4
  have HU1 := Lib.hid hu1
  have HU2 := Lib.hid hu2
  have HD := Lib.hid hd
  have HT := Lib.hid ht
  have HPL := Lib.hid hpl
  clear h hbA hR hv hblk hv1 hv2 hv3 hv4 hu1 hu2 hml hd ht hpl
  by_cases hdk : x.dev < p.disks.length
  · have hdI : (x.dev : Int) < (p.disks.length : Int) := by omega
    have htf : d.tape = false := by rw [HT.out]; exact decide_eq_false (by omega)
    have hpl := HPL.out htf
    have HSS : Hid ((d.settle x.place x.b).has = d.has.set x.place x.b) := Lib.hid (by unfold Dev.settle; rw [htf]; rfl)
    obtain ⟨gs, v0, hA, _, hc0, _⟩ := HU2.out.sec (List.getElem?_eq_getElem hpl)
    subst hA
    obtain ⟨vs, hvv, _⟩ := HU2.out
    have hfz := hvv.free (by omega) x.place
    have hfin := HasAt.setSec HV1.out HV2.out HV3.out HV4.out (devs_has HD.out) HU1.out hpl HSV.out
    obtain ⟨hfg, cur, hcur⟩ := hvv.blockF (by omega)
    have hgs := lt_heap hcur
    have HFIN := Lib.hid hfin
    have HCUR := Lib.hid hcur
    have HFG := Lib.hid hfg
    have hplI : (x.place : Int) < (d.has.length : Int) := by omega
    clear hfin hvv hcur hfg htf
    go_enter Try.func79, Try.ntmps79
    go_wp2_with fail
    go_quiet ((go_at_call 75; exact Calls.quiet_of_same (HDK.out _)))
    go_wp2_with fail
    refine Ord.region_ord [] [0, 1, 2, 3, 4, 5, 6, 7, 8, 9, 10, 11, 12, 13] (by kernel_rfl) (by kernel_rfl) (by kernel_rfl) (by kernel_rfl) (Ord.ord_all [_, _, _, _, _, _, _, _, _, _, _, _, _, _] rfl (by kernel_rfl) ?_)
    go_wp2_with fail
    refine Ord.nx_end ?_
    go_wp2_with fail
    go_end0
    have hm : Mods (w.alloc (.cells #[.int .i64 (x.dev : Int), .int .i64 (x.place : Int), .slice Av 64 cv] 112)).heap.size F (w.alloc (.cells #[.int .i64 (x.dev : Int), .int .i64 (x.place : Int), .slice Av 64 cv] 112)) (((w.alloc (.cells #[.int .i64 (x.dev : Int), .int .i64 (x.place : Int), .slice Av 64 cv] 112)).drewN (nq + 1)).setCell ⟨gs, x.place, none⟩ (.slice Av 64 cv)) :=
      ((Mods.refl _ F _).drewN (nq + 1)).setCell (p := ⟨gs, x.place, none⟩) (.inl HFG.out) _
    have hk : ∀ (t : TypeId), t ≠ 28 → ∀ (g : Nat) (cs : Array Value), (w.alloc (.cells #[.int .i64 (x.dev : Int), .int .i64 (x.place : Int), .slice Av 64 cv] 112)).heap[g]? = some (Obj.cells cs t (0, 0)) → (((w.alloc (.cells #[.int .i64 (x.dev : Int), .int .i64 (x.place : Int), .slice Av 64 cv] 112)).drewN (nq + 1)).setCell ⟨gs, x.place, none⟩ (.slice Av 64 cv)).heap[g]? = some (Obj.cells cs t (0, 0)) := fun t ht g cs hh =>
      Blk.far (w := (w.alloc (.cells #[.int .i64 (x.dev : Int), .int .i64 (x.place : Int), .slice Av 64 cv] 112)).drewN (nq + 1)) (g := g) (t := t) (cs := cs) hh (p := ⟨gs, x.place, none⟩) (Blk.ne_ (w := w.alloc (.cells #[.int .i64 (x.dev : Int), .int .i64 (x.place : Int), .slice Av 64 cv] 112)) (g := g) (t := t) (cs := cs) (g' := gs) (t' := 28) (cs' := cur) hh HCUR.out ht) _
    refine ⟨rfl, (RefB.putV (q := { p with devs := Pl.settle p.devs x }) HR.out ⟨rfl, rfl, rfl, rfl, rfl, rfl, rfl⟩ (fun t ht _ => hk t ht) ?_).mono fun g _ hg => ?_, (RMods.of_below (F := F) HBA.out).trans ⟨hm.mono (Nat.le_refl _) fun g _ hg => .inl hg, ⟨hk _ (by decide), hk _ (by decide)⟩⟩⟩
    · rw [HSE.out, HSS.out]
      exact HasAt.mono (show HasAt S (((w.alloc (.cells #[.int .i64 (x.dev : Int), .int .i64 (x.place : Int), .slice Av 64 cv] 112)).drewN (nq + 1)).setCell ⟨gs, x.place, none⟩ (.slice Av 64 cv)) F _ _ from HFIN.out) fun g _ hg => .inl hg
    · exact hg.imp id fun hg => ⟨Nat.le_trans (Nat.le_of_lt HG.out) hg.1, hg.2⟩
  · have hdI : ¬ (x.dev : Int) < (p.disks.length : Int) := by omega
    have htt : d.tape = true := by rw [HT.out]; exact decide_eq_true (by omega)
    have HSS : Hid ((d.settle x.place x.b).has = d.has ++ [x.b]) := Lib.hid (by unfold Dev.settle; rw [htt]; rfl)
    clear htt
    go_enter Try.func79, Try.ntmps79
    go_wp2_with fail
    go_quiet ((go_at_call 75; exact Calls.quiet_of_same (HDK.out _)))
    go_wp2_with fail
    refine Held.begin_t (fun y => y.cell? ⟨r, 2, none⟩ = some (.slice (some ⟨gH, 0, none⟩) p.devs.length cV) ∧ y.cell? ⟨w.heap.size, 0, none⟩ = some (.int .i64 (x.dev : Int)) ∧ y.cell? ⟨w.heap.size, 2, none⟩ = some (.slice Av 64 cv)) (fun y => y.cell? ⟨gH, x.dev, none⟩ = some (.slice A' d.has.length c')) 19 (by kernel_rfl) ⟨h2, e0, e2⟩ hcell ?_
    intro hB
    refine Held.take_s (i := 0) (oi := ⟨some 22, _, _, _, _, _⟩) (v := ?_) rfl (by kernel_rfl) (by kernel_rfl) (by kernel_rfl) (by rfl) (fun _ _ _ h => h) (.inl ⟨by rfl, ?_⟩) hB ?_
    rotate_left
    · intro x hS
      obtain ⟨s1, s2, s3⟩ := hS
      go_simp <;> with_reducible rfl
    clear hB
    intro hB
    simp only [Act.put, List.setIfInBounds_toArray, List.set_cons_zero, List.set_cons_succ]
    refine Held.take_s (i := 1) (oi := ⟨some 23, _, _, _, _, _⟩) (v := ?_) rfl (by kernel_rfl) (by kernel_rfl) (by kernel_rfl) (by rfl) (fun _ _ _ h => h) (.inl ⟨by rfl, ?_⟩) hB ?_
    rotate_left
    · intro x hS
      obtain ⟨s1, s2, s3⟩ := hS
      go_simp <;> with_reducible rfl
    clear hB
    intro hB
    simp only [Act.put, List.setIfInBounds_toArray, List.set_cons_zero, List.set_cons_succ]
    refine Held.take_s (i := 2) (oi := ⟨some 24, _, _, _, _, _⟩) (v := ?_) rfl (by kernel_rfl) (by kernel_rfl) (by kernel_rfl) (by rfl) (fun _ _ _ h => h) (.inl ⟨by rfl, ?_⟩) hB ?_
    rotate_left
    · intro x hS
      obtain ⟨s1, s2, s3⟩ := hS
      go_simp <;> with_reducible rfl
    clear hB
    intro hB
    simp only [Act.put, List.setIfInBounds_toArray, List.set_cons_zero, List.set_cons_succ]
    refine Held.take_s (i := 3) (oi := ⟨some 25, _, _, _, _, _⟩) (v := ?_) rfl (by kernel_rfl) (by kernel_rfl) (by kernel_rfl) (by rfl) (fun _ _ _ h => h) (.inl ⟨by rfl, ?_⟩) hB ?_
    rotate_left
    · intro x hS
      obtain ⟨s1, s2, s3⟩ := hS
      go_simp <;> with_reducible rfl
    clear hB
    intro hB
    simp only [Act.put, List.setIfInBounds_toArray, List.set_cons_zero, List.set_cons_succ]
    refine Held.take_s (i := 4) (oi := ⟨some 26, _, _, _, _, _⟩) (v := ?_) rfl (by kernel_rfl) (by kernel_rfl) (by kernel_rfl) (by rfl) (fun _ _ _ h => h) (.inl ⟨by rfl, ?_⟩) hB ?_
    rotate_left
    · intro x hS
      obtain ⟨s1, s2, s3⟩ := hS
      go_simp <;> with_reducible rfl
    clear hB
    intro hB
    simp only [Act.put, List.setIfInBounds_toArray, List.set_cons_zero, List.set_cons_succ]
    refine Held.take_s (i := 5) (oi := ⟨some 27, _, _, _, _, _⟩) (v := ?_) rfl (by kernel_rfl) (by kernel_rfl) (by kernel_rfl) (by rfl) (fun _ _ _ h => h) (.inl ⟨by rfl, ?_⟩) hB ?_
    rotate_left
    · intro x hS
      obtain ⟨s1, s2, s3⟩ := hS
      go_simp <;> with_reducible rfl
    clear hB
    intro hB
    simp only [Act.put, List.setIfInBounds_toArray, List.set_cons_zero, List.set_cons_succ]
    refine Held.take_s (i := 6) (oi := ⟨some 28, _, _, _, _, _⟩) (v := ?_) rfl (by kernel_rfl) (by kernel_rfl) (by kernel_rfl) (by rfl) (fun _ _ _ h => h) (.inl ⟨by rfl, ?_⟩) hB ?_
    rotate_left
    · intro x hS
      obtain ⟨s1, s2, s3⟩ := hS
      go_simp <;> with_reducible rfl
    clear hB
    intro hB
    simp only [Act.put, List.setIfInBounds_toArray, List.set_cons_zero, List.set_cons_succ]
    refine Held.take_s (i := 7) (oi := ⟨some 29, _, _, _, _, _⟩) (v := ?_) rfl (by kernel_rfl) (by kernel_rfl) (by kernel_rfl) (by rfl) (fun _ _ _ h => h) (.inl ⟨by rfl, ?_⟩) hB ?_
    rotate_left
    · intro x hS
      obtain ⟨s1, s2, s3⟩ := hS
      go_simp <;> with_reducible rfl
    clear hB
    intro hB
    simp only [Act.put, List.setIfInBounds_toArray, List.set_cons_zero, List.set_cons_succ]
    refine Held.take_s (i := 8) (oi := ⟨some 30, _, _, _, _, _⟩) (v := ?_) rfl (by kernel_rfl) (by kernel_rfl) (by kernel_rfl) (by rfl) (fun _ _ _ h => h) (.inl ⟨by rfl, ?_⟩) hB ?_
    rotate_left
    · intro x hS
      obtain ⟨s1, s2, s3⟩ := hS
      go_simp <;> with_reducible rfl
    clear hB
    intro hB
    simp only [Act.put, List.setIfInBounds_toArray, List.set_cons_zero, List.set_cons_succ]
    refine Held.take_s (i := 9) (oi := ⟨some 31, _, _, _, _, _⟩) (v := ?_) rfl (by kernel_rfl) (by kernel_rfl) (by kernel_rfl) (by rfl) (fun _ _ _ h => h) (.inl ⟨by rfl, ?_⟩) hB ?_
    rotate_left
    · intro x hS
      obtain ⟨s1, s2, s3⟩ := hS
      go_simp <;> with_reducible rfl
    clear hB
    intro hB
    simp only [Act.put, List.setIfInBounds_toArray, List.set_cons_zero, List.set_cons_succ]
    refine Held.take_s (i := 10) (oi := ⟨some 32, _, _, _, _, _⟩) (v := ?_) rfl (by kernel_rfl) (by kernel_rfl) (by kernel_rfl) (by rfl) (fun _ _ _ h => h) (.inl ⟨by rfl, ?_⟩) hB ?_
    rotate_left
    · intro x hS
      obtain ⟨s1, s2, s3⟩ := hS
      go_simp <;> with_reducible rfl
    clear hB
    intro hB
    simp only [Act.put, List.setIfInBounds_toArray, List.set_cons_zero, List.set_cons_succ]
    refine Held.take_s (i := 11) (oi := ⟨some 33, _, _, _, _, _⟩) (v := ?_) rfl (by kernel_rfl) (by kernel_rfl) (by kernel_rfl) (by rfl) (fun _ _ _ h => h) (.inl ⟨by rfl, ?_⟩) hB ?_
    rotate_left
    · intro x hS
      obtain ⟨s1, s2, s3⟩ := hS
      go_simp <;> with_reducible rfl
    clear hB
    intro hB
    simp only [Act.put, List.setIfInBounds_toArray, List.set_cons_zero, List.set_cons_succ]
    refine Held.take_s (i := 12) (oi := ⟨some 34, _, _, _, _, _⟩) (v := ?_) rfl (by kernel_rfl) (by kernel_rfl) (by kernel_rfl) (by rfl) (fun _ _ _ h => h) (.inl ⟨by rfl, ?_⟩) hB ?_
    rotate_left
    · intro x hS
      obtain ⟨s1, s2, s3⟩ := hS
      go_simp <;> with_reducible rfl
    clear hB
    intro hB
    simp only [Act.put, List.setIfInBounds_toArray, List.set_cons_zero, List.set_cons_succ]
    refine Held.take_t (i := 13) (oi := ⟨some 35, _, _, _, _, _⟩) (v := ?_) rfl (by kernel_rfl) (by kernel_rfl) (by kernel_rfl) (by rfl) (by kernel_rfl) (by kernel_rfl) (fun _ _ _ h => h) (.inl ⟨by rfl, ?_⟩) hB ?_
    rotate_left
    · intro x hS
      obtain ⟨⟨s1, s2, s3⟩, s4⟩ := hS
      go_simp <;> with_reducible rfl
    clear hB
    intro hB
    simp only [Act.put, List.setIfInBounds_toArray, List.set_cons_zero, List.set_cons_succ]
    refine Held.take_s (i := 14) (oi := ⟨some 36, _, _, _, _, _⟩) (v := ?_) rfl (by kernel_rfl) (by kernel_rfl) (by kernel_rfl) (by rfl) (fun _ _ _ h => h) (.inl ⟨by rfl, ?_⟩) hB ?_
    rotate_left
    · intro x hS
      obtain ⟨s1, s2, s3⟩ := hS
      go_simp <;> with_reducible rfl
    clear hB
    intro hB
    simp only [Act.put, List.setIfInBounds_toArray, List.set_cons_zero, List.set_cons_succ]
    refine Held.take_s (i := 15) (oi := ⟨some 37, _, _, _, _, _⟩) (v := ?_) rfl (by kernel_rfl) (by kernel_rfl) (by kernel_rfl) (by rfl) (fun _ _ _ h => h) (.inl ⟨by rfl, ?_⟩) hB ?_
    rotate_left
    · intro x hS
      obtain ⟨s1, s2, s3⟩ := hS
      go_simp <;> with_reducible rfl
    clear hB
    intro hB
    simp only [Act.put, List.setIfInBounds_toArray, List.set_cons_zero, List.set_cons_succ]
    refine Held.ready_t (rs := [16]) (by kernel_rfl) (by simp) ?_
    refine Held.Each.cons (o := ⟨some 38, _, _, _, _, _⟩) rfl (fun K hK => ?_) Held.Each.nil
    go_simp
    have hbB : Below (w.alloc (.cells #[.int .i64 (x.dev : Int), .int .i64 (x.place : Int), .slice Av 64 cv] 112)).heap.size (w.alloc (.cells #[.int .i64 (x.dev : Int), .int .i64 (x.place : Int), .slice Av 64 cv] 112)) (((w.alloc (.cells #[.int .i64 (x.dev : Int), .int .i64 (x.place : Int), .slice Av 64 cv] 112)).drewN (nq + 1)).alloc (.cells #[.slice Av 64 cv] 28)) := (below_drewN (Below.refl (w.alloc (.cells #[.int .i64 (x.dev : Int), .int .i64 (x.place : Int), .slice Av 64 cv] 112)).heap.size (w.alloc (.cells #[.int .i64 (x.dev : Int), .int .i64 (x.place : Int), .slice Av 64 cv] 112))) (nq + 1)).alloc (Nat.le_refl _) _
    have HBB := Lib.hid hbB
    have g2 := (hbB.cell (cell_lt h2)).trans h2
    have g0 := (hbB.cell (cell_lt e0)).trans e0
    have g3 := (hbB.cell (cell_lt e2)).trans e2
    have g4 := (hbB.cell (cell_lt hcell)).trans hcell
    refine hK.out _ _ ⟨⟨g2, g0, g3⟩, fun _ => g4⟩ ?_
    clear hK K hB
    refine Held.ready_t (rs := [17]) (by kernel_rfl) (by simp) ?_
    refine Held.Each.cons (o := ⟨some 39, _, _, _, _, _⟩) rfl (fun K hK => ?_) Held.Each.nil
    rw [if_pos (show Region.wanted _ _ = true from rfl)]
    obtain ⟨vs, hvv, hsec⟩ := HU2.out
    have HSEC := Lib.hid hsec
    refine wp_append_vec2 (.tmp 35) (.tmp 38) _ rfl 24 _ rowTy rfl (hvv.below hbB) ⟨w.heap.size + 1, 0, none⟩ 1 1 [.slice Av 64 cv] rfl rfl (blk_news (Blk.new_at ((w.alloc (.cells #[.int .i64 (x.dev : Int), .int .i64 (x.place : Int), .slice Av 64 cv] 112)).drewN (nq + 1)) _ (by simp) _ _)) (by intro v hv; simp at hv; subst hv; rfl) (by unfold maxLen; omega) (by omega) (by omega) ?_
    intro v5 w5 row hv5 hg5 hr5 ho5
    have hr5' : row = none ∨ ∃ g cs, row = some g ∧ (((w.alloc (.cells #[.int .i64 (x.dev : Int), .int .i64 (x.place : Int), .slice Av 64 cv] 112)).drewN (nq + 1)).alloc (.cells #[.slice Av 64 cv] 28)).heap[g]? = some (Obj.cells cs 28 (0, 0)) := hr5.imp id fun ⟨g, cs, x, _, y, _⟩ => ⟨g, cs, x, y⟩
    have hkp := fun (t : TypeId) (ht : t ≠ 28) => keep_ty hg5 hr5' ht
    have hR5 := HR.out.below hbB
    have hblk5 : Blk w5 r 78 _ := hkp 78 (by decide) r _ hR5.blk
    have hbox5 : Blk w5 w.heap.size 112 _ := hkp 112 (by decide) _ _ (HBK.out.below_ hbB)
    have hvH5 := (HV1.out.below hbB).heap (hkp 79 (by decide))
    have f2 : w5.cell? ⟨r, 2, none⟩ = some (.slice (some ⟨gH, 0, none⟩) p.devs.length cV) := by have := hblk5.cell 2; simpa [rfCells] using this
    have f0 := (hbox5.cell 0).trans (show _ = some (.int .i64 (x.dev : Int)) from rfl)
    have f3 := (hbox5.cell 2).trans (show _ = some (.slice Av 64 cv) from rfl)
    have f4 := hvH5.at_ HU1.out
    have z4 := hvH5.free (by simp; omega) x.dev
    obtain ⟨hfH, curH, hcurH⟩ := hvH5.blockF (by simp; omega)
    have HV5 := Lib.hid hv5
    have HG5 := Lib.hid hg5
    have HR5 := Lib.hid hr5
    have HR5' := Lib.hid hr5'
    have HO5 := Lib.hid ho5
    have HCH := Lib.hid hcurH
    have HFH := Lib.hid hfH
    have HB5 := Lib.hid hblk5
    have HX5 := Lib.hid hbox5
    obtain ⟨A5, c5, rfl⟩ := hv5.shape
    refine hK.out _ _ ⟨⟨f2, f0, f3⟩, fun _ => f4⟩ ?_
    clear hK K hv5 hg5 hr5 hr5' ho5 hkp hR5 hblk5 hbox5 hvH5 hcurH hfH g2 g0 g3 g4 hbB hvv hsec
    refine Held.take_s (i := 18) (oi := ⟨some 40, _, _, _, _, _⟩) (v := ?_) rfl (by kernel_rfl) (by kernel_rfl) (by kernel_rfl) (by rfl) (fun _ _ _ h => h) (.inl ⟨by rfl, ?_⟩) ⟨⟨f2, f0, f3⟩, fun _ => f4⟩ ?_
    rotate_left
    · intro x hS
      obtain ⟨s1, s2, s3⟩ := hS
      go_simp <;> with_reducible rfl
    intro hB
    clear hB
    simp only [Act.put, List.setIfInBounds_toArray, List.set_cons_zero, List.set_cons_succ]
    refine Held.ready_t (rs := [19]) (by kernel_rfl) (by simp) ?_
    refine Held.Each.cons (o := ⟨none, _, _, _, _, _⟩) rfl (fun K hK => ?_) Held.Each.nil
    go_simp
    have hfar : ∀ (t : TypeId), t ≠ 79 → ∀ (g : Nat) (cs : Array Value), w5.heap[g]? = some (Obj.cells cs t (0, 0)) → (w5.setCell ⟨gH, x.dev, none⟩ (.slice A5 (d.has.length + 1) c5)).heap[g]? = some (Obj.cells cs t (0, 0)) := fun t ht g cs hh =>
      Blk.far (w := w5) (g := g) (t := t) (cs := cs) hh (p := ⟨gH, x.dev, none⟩) (Blk.ne_ (w := w5) (g := g) (t := t) (cs := cs) (g' := gH) (t' := 79) (cs' := curH) hh HCH.out ht) _
    have hb6 : Blk (w5.setCell ⟨gH, x.dev, none⟩ (.slice A5 (d.has.length + 1) c5)) r 78 _ := hfar 78 (by decide) _ _ HB5.out
    have hx6 : Blk (w5.setCell ⟨gH, x.dev, none⟩ (.slice A5 (d.has.length + 1) c5)) w.heap.size 112 _ := hfar 112 (by decide) _ _ HX5.out
    have k2 : (w5.setCell ⟨gH, x.dev, none⟩ (.slice A5 (d.has.length + 1) c5)).cell? ⟨r, 2, none⟩ = some (.slice (some ⟨gH, 0, none⟩) p.devs.length cV) := by have := hb6.cell 2; simpa [rfCells] using this
    have k0 := (hx6.cell 0).trans (show _ = some (.int .i64 (x.dev : Int)) from rfl)
    have k3 := (hx6.cell 2).trans (show _ = some (.slice Av 64 cv) from rfl)
    refine hK.out _ _ ⟨⟨k2, k0, k3⟩, fun hn => absurd (show false = true from hn.symm.trans (by kernel_rfl)) (by decide)⟩ ?_
    clear hK K
    refine Held.done_t (by kernel_rfl) ?_ _
    go_wp2_with fail
    go_end0
    have hkp := fun (t : TypeId) (ht : t ≠ 28) => keep_ty HG5.out HR5'.out ht
    have hkb : BytesKept (((w.alloc (.cells #[.int .i64 (x.dev : Int), .int .i64 (x.place : Int), .slice Av 64 cv] 112)).drewN (nq + 1)).alloc (.cells #[.slice Av 64 cv] 28)) w5 := ⟨hkp _ (by decide), hkp _ (by decide)⟩
    have hbb := HBB.out
    have hrow5 : RowAt S w5 (Grow F (((w.alloc (.cells #[.int .i64 (x.dev : Int), .int .i64 (x.place : Int), .slice Av 64 cv] 112)).drewN (nq + 1)).alloc (.cells #[.slice Av 64 cv] 28)) w5) (.slice A5 (d.has.length + 1) c5) (d.has ++ [x.b]) := by
      refine ⟨_, by simpa using HV5.out, fun k b hb => ?_⟩
      have hvl : vs.length = d.has.length := by have := HV5.out.len; simp at this; omega
      rcases Nat.lt_or_ge k d.has.length with h | h
      · rw [List.getElem?_append_left h] at hb
        obtain ⟨u, h5, h6⟩ := HSEC.out k b hb
        exact ⟨u, by rw [List.getElem?_append_left (by omega)]; exact h5, (h6.below hbb).keep hkb⟩
      · have hk : k = d.has.length := by
          have := (List.getElem?_eq_some_iff.1 hb).1
          simp at this
          omega
        subst hk
        simp at hb
        subst hb
        exact ⟨_, by rw [List.getElem?_append_right (by omega), hvl]; simp, (HSV.out.below hbb).keep hkb⟩
    have hlt5 : ∀ g, (Value.slice A5 (d.has.length + 1) c5).ownBlock = some g → g < w5.heap.size := fun g hg => by
      obtain ⟨g', _, cur, he, _, hh, _⟩ := HV5.out.form (by omega)
      injection he with he
      subst he
      injection hg with hg
      subst hg
      exact lt_heap hh
    have hset := HasAt.setRow (w := (((w.alloc (.cells #[.int .i64 (x.dev : Int), .int .i64 (x.place : Int), .slice Av 64 cv] 112)).drewN (nq + 1)).alloc (.cells #[.slice Av 64 cv] 28))) (HV1.out.below hbb) (fun i l hl => (HV2.out i l hl).imp fun v y => ⟨y.1, y.2.mods (Mods.of_below (F := fun _ => False) hbb) (fun g hg _ => ⟨hg, fun x => x⟩) (RMods.of_below (F := fun _ => False) hbb).bytes⟩) HV3.out (fun i g hg => ⟨(HV4.out i g hg).1, Nat.lt_of_lt_of_le (HV4.out i g hg).2 hbb.size⟩) (by simp; omega) HU1.out HG5.out HR5.out HO5.out hrow5 hlt5
    have hm : RMods F w (w5.setCell ⟨gH, x.dev, none⟩ (.slice A5 (d.has.length + 1) c5)) := by
      refine ⟨(((Mods.of_below (HBA.out.trans (hbb.mono HBA.out.size))).grown HG5.out (Nat.le_trans HBA.out.size hbb.size) fun g hgr => ?_).setCell (.inl HFH.out) _), ((RMods.of_below (F := F) (HBA.out.trans (hbb.mono HBA.out.size))).bytes.trans hkb).trans ⟨hfar _ (by decide), hfar _ (by decide)⟩⟩
      rcases HR5.out with h1 | ⟨g', cs', h1, h2, _⟩
      · rw [h1] at hgr; cases hgr
      · rw [h1] at hgr
        injection hgr with hgr
        subst hgr
        exact .inl h2
    refine ⟨rfl, (RefB.putV (q := { p with devs := Pl.settle p.devs x }) (HR.out.below hbb) ⟨rfl, rfl, rfl, rfl, rfl, rfl, rfl⟩ (fun t h1 h2 g cs hh => hfar t h2 g cs (hkp t h1 g cs hh)) ?_).mono fun g _ hg => ?_, hm⟩
    · rw [HSE.out, HSS.out]
      have := hset
      rwa [List.length_map] at this ⊢
    · exact hg.imp id fun hg => ⟨Nat.le_trans (Nat.le_trans HBA.out.size hbb.size) hg.1, hg.2⟩
end Go.Proofs.Ytomncfiklkhfjaa.Ref
/- The reference's Flush. -/
namespace Go.Proofs.Ytomncfiklkhfjaa.Ref
open Go Go.RowKit Mem Pl
variable {S : Nat → Prop}
/-- The plant, and a row of writes beside it. -/
structure FlM (S : Nat → Prop) (F : Nat → Prop) (w1 wr : World) (r : Nat) (p : PM) (left : Int) (D T V W lv : Value) (j k : Nat) (Fp G : Nat → Prop) : Prop where
  ref : RefB S wr Fp r { p with devs := (hit j (p.waits.take k)).foldl Pl.settle p.devs } left D T V W
  lw : RWaitsAt S wr G lv (flt j (p.waits.take k))
  dis : ∀ g, G g → ¬ Fp g ∧ g < wr.heap.size ∧ w1.heap.size ≤ g
  fp : ∀ g, Fp g → (F g ∨ w1.heap.size ≤ g) ∧ (g < w1.heap.size → F g) ∧ g < wr.heap.size
  mods : RMods F w1 wr
def FlR (S : Nat → Prop) (F : Nat → Prop) (w1 : World) (r : Nat) (p : PM) (left : Int) (D T V W : Value) (j : Nat) (lv kv : Value) (wr : World) : Prop :=
  ∃ (k : Nat) (Fp G : Nat → Prop), k ≤ p.waits.length ∧ kv = .int .i64 (k : Int) ∧ FlM S F w1 wr r p left D T V W lv j k Fp G
theorem hit_take {ws : List Wr} {k : Nat} {x : Wr} (hx : ws[k]? = some x) (j : Nat) : hit j (ws.take (k + 1)) = hit j (ws.take k) ++ (if x.dev = j then [x] else []) ∧ flt j (ws.take (k + 1)) = flt j (ws.take k) ++ (if x.dev = j then [] else [x]) := by
  obtain ⟨hk, e⟩ := List.getElem?_eq_some_iff.1 hx
  rw [List.take_succ_eq_append_getElem hk, e]
  unfold hit flt
  by_cases h : x.dev = j <;> simp [List.filter_append, h]
theorem RefB.mods {w w' : World} {F G : Nat → Prop} {r : Nat} {p : PM} {left : Int} {D T V W : Value} {B : Nat} (h : RefB S w F r p left D T V W) (hm : Mods B G w w') (hn : ∀ g, g < w.heap.size → F g → g < B ∧ ¬ G g) (hk : BytesKept w w') : RefB S w' F r p left D T V W :=
  ⟨h.blk.mods hm (hn r h.blk.lt h.own).1 (hn r h.blk.lt h.own).2, h.own, h.hleft, h.lrange, h.disks.heap hk.i, h.tapes.heap hk.i, h.has.mods hm hn hk, h.waits.mods hm hn hk⟩
section
variable {F Fp G : Nat → Prop} {w1 wr w' w5 : World} {r : Nat} {p : PM} {left : Int} {D T V W lv : Value} {j k : Nat} {x : Wr}
theorem FlM.hit_ (h : FlM S F w1 wr r p left D T V W lv j k Fp G) (hx : p.waits[k]? = some x) (hj : x.dev = j)
    (hr : RefB S w' (Grow Fp wr w') r { p with devs := Pl.settle ((hit j (p.waits.take k)).foldl Pl.settle p.devs) x } left D T V W) (hm : RMods Fp wr w') : FlM S F w1 w' r p left D T V W lv j (k + 1) (Grow Fp wr w') G := by
  obtain ⟨h1, h2⟩ := hit_take hx j
  rw [if_pos hj] at h1 h2
  have hsz := h.mods.mods.size
  have hsz2 := hm.mods.size
  refine ⟨?_, ?_, fun g hg => ⟨?_, Nat.lt_of_lt_of_le (h.dis g hg).2.1 hsz2, (h.dis g hg).2.2⟩, fun g hg => ?_, ⟨h.mods.mods.trans (hm.mods.mono hsz fun g hlt hf => (h.fp g hf).2.1 hlt), h.mods.bytes.trans hm.bytes⟩⟩
  · rw [h1, List.foldl_append]
    exact hr
  · rw [h2, List.append_nil]
    exact h.lw.mods hm.mods (fun g hg hG => ⟨hg, (h.dis g hG).1⟩) hm.bytes
  · rintro (hf | hf)
    · exact (h.dis g hg).1 hf
    · have := (h.dis g hg).2.1
      omega
  · rcases hg with hg | hg
    · exact ⟨(h.fp g hg).1, (h.fp g hg).2.1, Nat.lt_of_lt_of_le (h.fp g hg).2.2 hsz2⟩
    · exact ⟨.inr (Nat.le_trans hsz hg.1), fun h => by omega, hg.2⟩
theorem FlM.skip (h : FlM S F w1 wr r p left D T V W lv j k Fp G) (hx : p.waits[k]? = some x) (hj : x.dev ≠ j) {wB : World} {row : Option Nat} {lv' : Value} (hB : Below wr.heap.size wr wB)
    (hg : wB.grownBy w5 row) (hr : row = none ∨ ∃ g cs, row = some g ∧ G g ∧ wB.heap[g]? = some (Obj.cells cs 112 (0, 0))) (hl : RWaitsAt S w5 (Grow G wB w5) lv' (flt j (p.waits.take k) ++ [x])) : FlM S F w1 w5 r p left D T V W lv' j (k + 1) Fp (Grow G wB w5) := by
  obtain ⟨h1, h2⟩ := hit_take hx j
  rw [if_neg hj] at h1 h2
  have hsz := h.mods.mods.size
  have hr' : row = none ∨ ∃ g cs, row = some g ∧ wB.heap[g]? = some (Obj.cells cs 112 (0, 0)) := hr.imp id fun ⟨g, cs, x, _, y⟩ => ⟨g, cs, x, y⟩
  have hkb : BytesKept wB w5 := ⟨keep_ty hg hr' (by decide), keep_ty hg hr' (by decide)⟩
  have hm : Mods wB.heap.size G wB w5 := (Mods.refl wB.heap.size G wB).grown hg (Nat.le_refl _) fun g hgr => by
    rcases hr with h1 | ⟨g', cs', h1, h2, _⟩
    · rw [h1] at hgr; cases hgr
    · rw [h1] at hgr
      injection hgr with hgr
      subst hgr
      exact .inl h2
  refine ⟨?_, ?_, fun g hg' => ?_, fun g hg' => ?_, ?_⟩
  · rw [h1, List.append_nil]
    exact (h.ref.below hB).mods hm (fun g hlt hf => ⟨hlt, fun hG => (h.dis g hG).1 hf⟩) hkb
  · rw [h2]
    exact hl
  · rcases hg' with hg' | hg'
    · exact ⟨(h.dis g hg').1, Nat.lt_of_lt_of_le (h.dis g hg').2.1 (Nat.le_trans hB.size hg.size), (h.dis g hg').2.2⟩
    · exact ⟨fun hf => by have := (h.fp g hf).2.2; have := hB.size; omega, hg'.2, Nat.le_trans (Nat.le_trans hsz hB.size) hg'.1⟩
  · exact ⟨(h.fp g hg').1, (h.fp g hg').2.1, Nat.lt_of_lt_of_le (h.fp g hg').2.2 (Nat.le_trans hB.size hg.size)⟩
  · refine ⟨h.mods.mods.trans ((Mods.of_below (F := F) (hB.mono hsz)).trans (hm.mono (Nat.le_trans hsz hB.size) fun g hlt hG => ?_)), (h.mods.bytes.trans (RMods.of_below (F := F) hB).bytes).trans hkb⟩
    have := (h.dis g hG).2.2
    omega
end
end Go.Proofs.Ytomncfiklkhfjaa.Ref
/- The walk of the reference's Flush. -/
namespace Go.Proofs.Ytomncfiklkhfjaa.Ref
open Go Go.RowKit Mem Pl
variable {S : Nat → Prop}
theorem flush_eq {p : PM} (h0 : p.off = false) {j : Nat} (hn : p.num j = some j) : p.flush j = if p.step.2 then ({ p.step.1 with devs := (hit j p.waits).foldl Pl.settle p.devs, waits := flt j p.waits }, 0) else (p.step.1, 2) := by
  unfold PM.flush
  rw [h0, hn]
  rfl
theorem may_settle {p : PM} (hok : p.Ok) {j : Nat} {d : Dev} (hd : p.devs[j]? = some d) {k : Nat} {x : Wr} (hx : p.waits[k]? = some x) (hj : x.dev = j) :
    ∃ d', ((hit j (p.waits.take k)).foldl Pl.settle p.devs)[x.dev]? = some d' ∧ d'.tape = decide (p.disks.length ≤ x.dev) ∧ (d'.tape = false → x.place < d'.has.length) ∧ d'.has.length ≤ 1000000 ∧ ((hit j (p.waits.take k)).foldl Pl.settle p.devs).length ≤ 12 ∧ x.place ≤ 1000000 := by
  obtain ⟨d1, h1, h2, _, _, _, h6⟩ := fold_hit (hit j (p.waits.take k)) p.devs d (fun y hy => by simpa using (List.mem_filter.1 hy).2) hd
  obtain ⟨d', h3, h4, h5, h7⟩ := hok.maySet hd k x hx hj
  rw [hj, h1] at h3
  injection h3 with h3
  subst h3
  refine ⟨d1, by rw [hj]; exact h1, by rw [h2, hj]; exact hok.tape j d hd, fun ht => ?_, by omega, by rw [h6]; exact hok.n12, by omega⟩
  rw [ht] at h5
  simpa using h5
set_option maxRecDepth 100000 in
set_option maxHeartbeats 4000000 in
theorem flush_any {w : World} {F : Nat → Prop} {r : Nat} {p : PM} {left : Int} {D T V W : Value} (h : RefB S w F r p left D T V W) (hok : p.Ok) (hlow : p.Low) (i : Int) :
    Calls Try.prog 46 #[.pointer (some ⟨r, 0, none⟩), .int .i64 i] w fun e w' => e = .returned (.int .i64 (p.flush i).2) ∧ RGone S F w r (p.flush i).1 w' := by
  have HB := Lib.hid h
  have h4 := h.c4
  have HHS := Lib.hid (has_any h hok i)
  have HSM := Lib.hid (fun q : Nat => (⟨(HB.out.below (below_drewN (Below.refl _ w) q)).same.1, (Mods.refl w.heap.size F w).drewN q, ⟨fun _ _ hh => hh, fun _ _ hh => hh⟩⟩ : RGone S F w r p (w.drewN q)))
  cases hoff : p.off with
  | true =>
    have e : p.flush i = (p, 2) := by unfold PM.flush; rw [hoff]; rfl
    rw [e]
    rw [hoff] at h4
    clear h hoff e
    go_enter Try.func46, Try.ntmps46
    go_wp2_with fail
    go_ret
    exact ⟨rfl, HB.out.same⟩
  | false =>
    rw [hoff] at h4
    have HOF := Lib.hid hoff
    clear hoff h
    rcases num_cases p i with ⟨hn, hi⟩ | ⟨j, d, rfl, hn, hj, hd⟩
    · have e : p.flush i = (p, 31) := by unfold PM.flush; rw [HOF.out, hn]; rfl
      rw [e]
      rw [hn] at HHS
      clear e hn
      go_enter Try.func46, Try.ntmps46
      go_wp2_with fail
      refine HHS.out.mono ?_
      rintro e _ ⟨rfl, q, rfl⟩
      go_wp2_with fail
      go_ret
      exact ⟨rfl, HSM.out _⟩
    · have HFE := Lib.hid (flush_eq HOF.out hn)
      rw [hn] at HHS
      have HMS := Lib.hid (hok.maySet hd)
      have HD := Lib.hid hd
      have hsl := hlow.steps
      have hwl := hlow.waits
      have HST := Lib.hid (fun q : Nat => step_any (HB.out.below (below_drewN (Below.refl _ w) q)) hsl)
      have hn12 := hok.n12
      clear hn hd
      go_enter Try.func46, Try.ntmps46
      go_wp2_with fail
      refine HHS.out.mono ?_
      rintro e _ ⟨rfl, q, rfl⟩
      go_wp2_with fail
      refine (HST.out q).mono ?_
      rintro e w1 ⟨rfl, ⟨left1, hr1⟩, hm1, hk1, hs1⟩
      have HR1 := Lib.hid hr1
      have HM1 : Hid (RMods F w w1) := Lib.hid ⟨((Mods.refl w.heap.size F w).drewN q).trans hm1.mods, ⟨hm1.bytes.b, hm1.bytes.i⟩⟩
      cases hst : p.step.2 with
      | false =>
        have HE : Hid (p.flush (j : Int) = (p.step.1, 2)) := Lib.hid (by rw [HFE.out, hst]; rfl)
        clear hst hr1 hm1 hk1 hs1
        go_wp2_with fail
        go_ret
        rw [HE.out]
        exact ⟨rfl, ⟨_, _, _, _, _, HR1.out⟩, HM1.out⟩
      | true =>
        have HE : Hid (p.flush (j : Int) = ({ p.step.1 with devs := (hit j p.waits).foldl Pl.settle p.devs, waits := flt j p.waits }, 0)) := Lib.hid (by rw [HFE.out, hst]; rfl)
        obtain ⟨s1, s2, s3, s4, s5⟩ := PM.step_same p
        obtain ⟨P, hP⟩ : ∃ P, p.step.1 = P := ⟨_, rfl⟩
        rw [hP] at s1 s2 s3 s4 s5 HR1 HE
        have hWs : ∃ AW cW, W = .slice AW P.waits.length cW := HR1.out.waits.shape
        obtain ⟨AW, cW, rfl⟩ := hWs
        have hpw : P.waits.length ≤ 1000000000 := by rw [s4]; exact hwl
        have hst0 : FlM S (Grow F w w1) w1 w1 r P left1 D T V (.slice AW P.waits.length cW) (.slice none 0 0) j 0 (fun g => Grow F w w1 g ∧ g < w1.heap.size) (fun _ => False) := by
          have hr2 : RefB S w1 (fun g => Grow F w w1 g ∧ g < w1.heap.size) r P left1 D T V (.slice AW P.waits.length cW) := (show RefB S w1 (Grow F w w1) r P left1 D T V (.slice AW P.waits.length cW) from HR1.out).mono fun g hlt hg => ⟨hg, hlt⟩
          exact ⟨hr2, ⟨[], Vec.nil_ _ _ _ _ _, rfl, fun i x h => by simp [flt] at h⟩, fun g hg => hg.elim, fun g hg => ⟨.inl hg.1, fun _ => hg.1, hg.2⟩, Mods.refl _ _ _, ⟨fun _ _ hh => hh, fun _ _ hh => hh⟩⟩
        have HST0 := Lib.hid hst0
        have HS1 := Lib.hid s1
        have HS3 := Lib.hid s3
        have HS4 := Lib.hid s4
        clear hst hr1 hm1 hk1 hs1 hst0 s1 s2 s3 s4 s5 hP
        have h3 := HR1.out.c3
        go_wp2_with fail
        go_loopw [5, 6] (fun lv kv wr => FlR S (Grow F w w1) w1 r P left1 D T V (.slice AW P.waits.length cW) j lv kv wr) (fun _ kv _ => P.waits.length - (intOf kv).toNat)
        case atStart => exact ⟨0, _, _, Nat.zero_le _, rfl, HST0.out⟩
        case round =>
          obtain ⟨k, Fp, G, hk, rfl, hfl⟩ := hrel
          have HFL := Lib.hid hfl
          have f3 := hfl.ref.c3
          clear hfl HST0 h3
          by_cases hlt : k < P.waits.length
          · obtain ⟨x, hx⟩ : ∃ x, P.waits[k]? = some x := ⟨_, List.getElem?_eq_getElem hlt⟩
            obtain ⟨gw, v, hA, _, e0, e1, e2, hsec, hrg⟩ := HFL.out.ref.waits.row hx
            subst hA
            have HX := Lib.hid hx
            have e0' : wr.cell? ⟨gw, k * 3, none⟩ = some (.int .i64 (x.dev : Int)) := e0
            have e1' : wr.cell? ⟨gw, k * 3 + 1, none⟩ = some (.int .i64 (x.place : Int)) := e1
            have HSEC := Lib.hid hsec
            have hkI : (k : Int) < (P.waits.length : Int) := by omega
            have HRG := Lib.hid hrg
            clear e0 e1 hx hsec hrg
            by_cases hc : x.dev = j
            · have d0 : ((x.dev : Int) == (j : Int)) = true := by simp; omega
              have HC := Lib.hid hc
              clear hc
              have hms := may_settle hok HD.out (k := k) (x := x) (by rw [← HS4.out]; exact HX.out) HC.out
              rw [← HS4.out, ← HS3.out, ← HS1.out] at hms
              obtain ⟨d', m1, m2, m3, m4, m5, m6⟩ := hms
              have HSE := Lib.hid (settle_any HFL.out.ref x d' m1 m2 m3 m4 m5 m6 v HSEC.out)
              clear m1 m2 m3 m4 m5 m6
              go_wp2_with fail
              refine HSE.out.mono ?_
              rintro e w' ⟨rfl, hr', hm'⟩
              have HR' := Lib.hid hr'
              have HM' := Lib.hid hm'
              clear hr' hm' e0' e1' f3
              go_wp2_with fail
              go_roundw
              case rel => exact ⟨k + 1, _, _, hlt, by simp, HFL.out.hit_ HX.out HC.out HR'.out HM'.out⟩
              case measure => simp [intOf]; omega
            · have d0 : ((x.dev : Int) == (j : Int)) = false := by simp; omega
              have HC := Lib.hid hc
              clear hc
              have hfl2 : (flt j (P.waits.take k)).length ≤ 1000000000 := by
                unfold flt
                exact Nat.le_trans (List.length_filter_le _ _) (by rw [List.length_take]; omega)
              obtain ⟨rows, hv, hrl, hrw⟩ := HFL.out.lw
              obtain ⟨AL, cL, rfl⟩ := hv.shape
              have HVL := Lib.hid hv
              have HRL := Lib.hid hrl
              have HRW := Lib.hid hrw
              clear hv hrl hrw
              go_wp2_with
                (refine wpList_append_vec rfl (.tmp 49) (.tmp 57) _ rfl 40 _ waitTy rfl (HVL.out.alloc _) ⟨wr.heap.size, 0, none⟩ 1 1 [.int .i64 (x.dev : Int), .int .i64 (x.place : Int), v] rfl rfl (blk_news (Blk.new wr _ _)) (by obtain ⟨A0, c0, rfl, _, _⟩ := HSEC.out.slice; intro v hv; simp at hv; rcases hv with rfl | rfl | rfl <;> rfl) ?c1 ?c2 ?_
                 case c1 => unfold maxLen; omega
                 case c2 => omega
                 intro V7 w7 row hv7 hg7 hr7
                 obtain ⟨A7, c7, rfl⟩ := hv7.shape
                 have hr7' : row = none ∨ ∃ g cs, row = some g ∧ (wr.alloc (.cells #[.int .i64 (x.dev : Int), .int .i64 (x.place : Int), v] 112)).heap[g]? = some (Obj.cells cs 112 (0, 0)) := hr7.imp id fun ⟨g, cs, x, _, y⟩ => ⟨g, cs, x, y⟩
                 have hB7 : Below wr.heap.size wr (wr.alloc (.cells #[.int .i64 (x.dev : Int), .int .i64 (x.place : Int), v] 112)) := below_al' _
                 have hW7 : RWaitsAt S w7 _ (.slice A7 ((flt j (P.waits.take k)).length + 1) c7) (flt j (P.waits.take k) ++ [x]) := RWaitsAt.push (w := wr.alloc (.cells #[.int .i64 (x.dev : Int), .int .i64 (x.place : Int), v] 112)) (x := x) HRL.out (fun i x hx => (HRW.out i x hx).imp fun v y => ⟨y.1, y.2.below hB7⟩) (HSEC.out.below hB7) ⟨keep_ty hg7 hr7' (by decide), keep_ty hg7 hr7' (by decide)⟩ hv7
                 have HNX := Lib.hid (HFL.out.skip HX.out HC.out hB7 hg7 hr7 hW7)
                 clear hv7 hg7 hr7 hr7' hB7 hW7 e0' e1' f3)
              go_roundw
              case rel => exact ⟨k + 1, _, _, hlt, by simp, HNX.out⟩
              case measure => simp [intOf]; omega
          · obtain rfl : k = P.waits.length := by omega
            have z3 := HFL.out.ref.fz 3
            obtain ⟨AL, cL, rfl⟩ := HFL.out.lw.shape
            go_wp2_with fail
            go_ret
            rw [HE.out]
            have hfr := HFL.out.ref
            have hlw := HFL.out.lw
            rw [List.take_length] at hfr hlw
            have hput := (hfr.mono (G := fun g => Fp g ∨ G g) fun g _ hg => .inl hg).putW (World.grownBy.refl wr none) (.inl rfl) (hlw.mono (G := Grow (fun g => Fp g ∨ G g) wr wr) fun g _ hg => .inl (.inr hg))
            obtain ⟨k1, k2⟩ := hput
            have hm2 := HM1.out.trans HFL.out.mods
            have hsz1 := HM1.out.mods.size
            have hszr := HFL.out.mods.mods.size
            have hsz2 := k2.mods.size
            rw [← HS4.out, ← HS3.out]
            refine ⟨rfl, RefAt.mono ⟨_, _, _, _, _, k1⟩ fun g _ hg => ?_, hm2.mods.trans (k2.mods.mono (Nat.le_trans hsz1 hszr) fun g hlt hg => ?_), hm2.bytes.trans k2.bytes⟩
            · rcases hg with (hg | hg) | hg
              · obtain ⟨q1, q2, q3⟩ := HFL.out.fp g hg
                rcases q1 with (q1 | q1) | q1
                · exact .inl q1
                · exact .inr ⟨q1.1, by omega⟩
                · exact .inr ⟨by omega, by omega⟩
              · obtain ⟨q1, q2, q3⟩ := HFL.out.dis g hg
                exact .inr ⟨by omega, by omega⟩
              · exact .inr ⟨by omega, hg.2⟩
            · rcases hg with hg | hg
              · obtain ⟨q1, q2, q3⟩ := HFL.out.fp g hg
                rcases q2 (by omega) with q | q
                · exact q
                · omega
              · obtain ⟨q1, q2, q3⟩ := HFL.out.dis g hg
                omega
end Go.Proofs.Ytomncfiklkhfjaa.Ref
/- The reference's Boot: the plain part, the states of its loops. -/
namespace Go.Proofs.Ytomncfiklkhfjaa.Ref
open Go Go.RowKit Mem Pl
variable {S : Nat → Prop}
theorem rem2 (k : Int) : (k.tmod 2 == 0) = (k % 2 == 0) := by
  rw [Bool.eq_iff_iff, beq_iff_eq, beq_iff_eq]
  exact Iff.trans Int.dvd_iff_tmod_eq_zero.symm Int.dvd_iff_emod_eq_zero
/-- What a boot's round finds. -/
structure BootAt (p : PM) (keep : List Int) (q : Nat) (x : Wr) : Prop where
  dev : ∃ d', (p.bootAt keep q).1[x.dev]? = some d' ∧ d'.tape = decide (p.disks.length ≤ x.dev) ∧ (d'.tape = false → x.place < d'.has.length) ∧ d'.has.length ≤ 1000000
  len : (p.bootAt keep q).1.length ≤ 12
  place : x.place ≤ 1000000
  b64 : x.b.length = 64
  tape : (p.bootAt keep q).2.contains x.dev = true → ¬ x.dev < p.disks.length
theorem ended_tapes {p : PM} (hok : p.Ok) (keep : List Int) : ∀ q, q ≤ p.waits.length → ∀ i ∈ (p.bootAt keep q).2, p.disks.length ≤ i
  | 0, _, i, hi => by cases hi
  | q + 1, hq, i, hi => by
    have hx : p.waits[q]? = some p.waits[q] := List.getElem?_eq_getElem (by omega)
    rw [PM.bootAt_next hx] at hi
    have ih := ended_tapes hok keep q (by omega)
    have hinv := hok.bootInv keep q (by omega)
    unfold bootStep at hi
    split at hi
    · exact ih i hi
    · simp only at hi
      split at hi
      · exact ih i hi
      · split at hi
        · rename_i ht
          have hnew : i ∈ (p.bootAt keep q).2 ++ [(p.waits[q]).dev] := by
            split at hi <;> exact hi
          rcases List.mem_append.1 hnew with h | h
          · exact ih i h
          · simp at h
            subst h
            obtain ⟨dx, hdx⟩ : ∃ dx, p.devs[(p.waits[q]).dev]? = some dx := ⟨_, List.getElem?_eq_getElem (hok.wdev _ (List.mem_of_getElem? hx))⟩
            obtain ⟨d', h1, h2, _⟩ := hinv.dev _ _ hdx
            rw [h1] at ht
            simp at ht
            rw [h2, hok.tape _ _ hdx] at ht
            exact of_decide_eq_true ht
        · exact ih i hi
theorem boot_at {p : PM} (hok : p.Ok) (keep : List Int) {q : Nat} {x : Wr} (hx : p.waits[q]? = some x) : BootAt p keep q x := by
  have hq := (List.getElem?_eq_some_iff.1 hx).1
  have hxm := List.mem_of_getElem? hx
  have hinv := hok.bootInv keep q (by omega)
  obtain ⟨dx, hdx⟩ : ∃ dx, p.devs[x.dev]? = some dx := ⟨_, List.getElem?_eq_getElem (hok.wdev x hxm)⟩
  obtain ⟨d', h1, h2, h3, h4, h5, h6, _⟩ := hinv.dev _ _ hdx
  have hmost := (hok.most _ _ hdx).2.2
  have hpl := hok.wplace x hxm dx hdx
  refine ⟨⟨d', h1, by rw [h2]; exact hok.tape _ _ hdx, fun ht => ?_, ?_⟩, by rw [hinv.len]; exact hok.n12, by omega, hok.wlen x hxm, fun hc => ?_⟩
  · rw [h2] at ht
    rw [h4 ht, hok.disk _ _ hdx ht]
    exact hpl
  · cases ht : dx.tape with
    | true =>
      have := h6 ht
      have := hok.room _ _ hdx ht
      have := cnt_take_le p.waits q x.dev
      omega
    | false =>
      have := h4 ht
      have := hok.disk _ _ hdx ht
      omega
  · have := ended_tapes hok keep q (by omega) x.dev (List.contains_iff_mem.1 hc)
    omega
theorem boot_disk_odd {p : PM} {keep : List Int} {q : Nat} {x : Wr} (h : BootAt p keep q x) (hx : p.waits[q]? = some x) (hd : x.dev < p.disks.length) (hk : keepAt keep q % 2 ≠ 0) : p.bootAt keep (q + 1) = (Pl.settle (p.bootAt keep q).1 x, (p.bootAt keep q).2) := by
  rw [PM.bootAt_next hx]
  unfold bootStep
  rw [if_neg (fun hc => h.tape hc hd)]
  simp only
  rw [if_pos hk]
theorem boot_disk_even {p : PM} {keep : List Int} {q : Nat} {x : Wr} (h : BootAt p keep q x) (hx : p.waits[q]? = some x) (hd : x.dev < p.disks.length) (hk : ¬ keepAt keep q % 2 ≠ 0) : p.bootAt keep (q + 1) = p.bootAt keep q := by
  rw [PM.bootAt_next hx]
  obtain ⟨d', h1, h2, _⟩ := h.dev
  have ht : d'.tape = false := by rw [h2]; exact decide_eq_false (by omega)
  unfold bootStep
  rw [if_neg (fun hc => h.tape hc hd)]
  simp only
  rw [if_neg hk, h1]
  simp [ht]
theorem boot_ended {p : PM} {keep : List Int} {q : Nat} {x : Wr} (hx : p.waits[q]? = some x) (hc : (p.bootAt keep q).2.contains x.dev = true) : p.bootAt keep (q + 1) = p.bootAt keep q := by
  rw [PM.bootAt_next hx]
  unfold bootStep
  rw [if_pos hc]
theorem boot_tape_odd {p : PM} {keep : List Int} {q : Nat} {x : Wr} (hx : p.waits[q]? = some x) (hc : (p.bootAt keep q).2.contains x.dev = false) (hk : keepAt keep q % 2 ≠ 0) : p.bootAt keep (q + 1) = (Pl.settle (p.bootAt keep q).1 x, (p.bootAt keep q).2) := by
  rw [PM.bootAt_next hx]
  unfold bootStep
  rw [if_neg (by rw [hc]; simp)]
  simp only
  rw [if_pos hk]
theorem boot_tape_torn {p : PM} {keep : List Int} {q : Nat} {x : Wr} (h : BootAt p keep q x) (hx : p.waits[q]? = some x) (hd : ¬ x.dev < p.disks.length) (hc : (p.bootAt keep q).2.contains x.dev = false) (hk : ¬ keepAt keep q % 2 ≠ 0) (hk4 : keepAt keep q % 4 = 2) :
    p.bootAt keep (q + 1) = (Pl.settle (p.bootAt keep q).1 { x with b := torn x.b }, (p.bootAt keep q).2 ++ [x.dev]) := by
  rw [PM.bootAt_next hx]
  obtain ⟨d', h1, h2, _⟩ := h.dev
  have ht : d'.tape = true := by rw [h2]; exact decide_eq_true (by omega)
  unfold bootStep
  rw [if_neg (by rw [hc]; simp)]
  simp only
  rw [if_neg hk, h1]
  simp [ht, hk4]
theorem boot_tape_end {p : PM} {keep : List Int} {q : Nat} {x : Wr} (h : BootAt p keep q x) (hx : p.waits[q]? = some x) (hd : ¬ x.dev < p.disks.length) (hc : (p.bootAt keep q).2.contains x.dev = false) (hk : ¬ keepAt keep q % 2 ≠ 0) (hk4 : ¬ keepAt keep q % 4 = 2) :
    p.bootAt keep (q + 1) = ((p.bootAt keep q).1, (p.bootAt keep q).2 ++ [x.dev]) := by
  rw [PM.bootAt_next hx]
  obtain ⟨d', h1, h2, _⟩ := h.dev
  have ht : d'.tape = true := by rw [h2]; exact decide_eq_true (by omega)
  unfold bootStep
  rw [if_neg (by rw [hc]; simp)]
  simp only
  rw [if_neg hk, h1]
  simp [ht, hk4]
/-- The row of ended tapes. -/
def endCells (n : Nat) (es : List Nat) : Array Value := ((List.range n).map fun i => Value.bool (es.contains i)).toArray
theorem endCells_get {n i : Nat} {es : List Nat} (h : i < n) : (endCells n es)[i]? = some (.bool (es.contains i)) := by
  unfold endCells
  simp [h]
theorem endCells_set {n i : Nat} {es : List Nat} (h : i < n) : (endCells n es).setIfInBounds i (.bool true) = endCells n (es ++ [i]) := by
  unfold endCells
  rw [List.setIfInBounds_toArray]
  congr 1
  refine List.ext_getElem? fun k => ?_
  rw [List.getElem?_set]
  simp only [List.getElem?_map, List.length_map, List.length_range]
  by_cases hik : i = k
  · subst hik
    rw [if_pos rfl, if_pos h, List.getElem?_range h]
    simp
  · rw [if_neg hik]
    rcases Nat.lt_or_ge k n with hk | hk
    · rw [List.getElem?_range hk]
      simp only [Option.map_some]
      congr 2
      rw [Bool.eq_iff_iff]
      simp only [List.contains_iff_mem, List.mem_append, List.mem_singleton]
      constructor
      · exact .inl
      · rintro (h | h)
        · exact h
        · exact absurd h.symm hik
    · rw [List.getElem?_eq_none (by simpa using hk)]
      rfl
theorem run_makeBool : ∀ {n : Nat} (_ : n ≤ 12) (w : World), (Instr.makeSlice 115 (.int .i64 (n : Int)) (.int .i64 (n : Int))).run Try.prog w = .ok (.slice (some ⟨w.heap.size, 0, none⟩) n n) (w.alloc (.cells (endCells n []) 4))
  | 0, _, w => by kernel_rfl
  | 1, _, w => by kernel_rfl
  | 2, _, w => by kernel_rfl
  | 3, _, w => by kernel_rfl
  | 4, _, w => by kernel_rfl
  | 5, _, w => by kernel_rfl
  | 6, _, w => by kernel_rfl
  | 7, _, w => by kernel_rfl
  | 8, _, w => by kernel_rfl
  | 9, _, w => by kernel_rfl
  | 10, _, w => by kernel_rfl
  | 11, _, w => by kernel_rfl
  | 12, _, w => by kernel_rfl
  | n + 13, h, w => by omega
/-- The plant with these devices, these tapes ended. -/
structure BtS (S : Nat → Prop) (F : Nat → Prop) (w wr : World) (r : Nat) (p : PM) (left : Int) (D T V W : Value) (gE : Nat) (ds : List Dev) (es : List Nat) (Fp : Nat → Prop) : Prop where
  ref : RefB S wr Fp r { p with devs := ds } left D T V W
  ended : Blk wr gE 4 (endCells p.devs.length es)
  out : ¬ Fp gE ∧ w.heap.size ≤ gE
  fp : ∀ g, Fp g → (F g ∨ w.heap.size ≤ g) ∧ (g < w.heap.size → F g) ∧ g < wr.heap.size
  mods : RMods F w wr
def BtR (S : Nat → Prop) (F : Nat → Prop) (w : World) (r : Nat) (p : PM) (keep : List Int) (left : Int) (D T V W : Value) (gE : Nat) (kv : Value) (wr : World) : Prop :=
  ∃ (k : Nat) (Fp : Nat → Prop), k ≤ p.waits.length ∧ kv = .int .i64 (k : Int) ∧ BtS S F w wr r p left D T V W gE (p.bootAt keep k).1 (p.bootAt keep k).2 Fp
section
variable {F Fp : Nat → Prop} {w wr w' : World} {r : Nat} {p : PM} {left : Int} {D T V W : Value} {gE : Nat} {ds : List Dev} {es : List Nat}
theorem BtS.to_ {keep : List Int} {k : Nat} (h : BtS S F w wr r p left D T V W gE ds es Fp) (he : p.bootAt keep (k + 1) = (ds, es)) (hk : k < p.waits.length) : BtR S F w r p keep left D T V W gE (.int .i64 ((k : Int) + 1)) wr :=
  ⟨k + 1, Fp, hk, by simp, by rw [he]; exact h⟩
/-- Blocks are made beside it. -/
theorem BtS.below (h : BtS S F w wr r p left D T V W gE ds es Fp) (hb : Below wr.heap.size wr w') : BtS S F w w' r p left D T V W gE ds es Fp :=
  ⟨h.ref.below hb, h.ended.below_ hb, h.out, fun g hg => ⟨(h.fp g hg).1, (h.fp g hg).2.1, Nat.lt_of_lt_of_le (h.fp g hg).2.2 hb.size⟩, ⟨h.mods.mods.trans (Mods.of_below (hb.mono h.mods.mods.size)), h.mods.bytes.trans (RMods.of_below (F := F) hb).bytes⟩⟩
/-- A write is settled. -/
theorem BtS.set_ (h : BtS S F w wr r p left D T V W gE ds es Fp) {ds' : List Dev} (hr : RefB S w' (Grow Fp wr w') r { p with devs := ds' } left D T V W) (hm : RMods Fp wr w') : BtS S F w w' r p left D T V W gE ds' es (Grow Fp wr w') := by
  have hsz := h.mods.mods.size
  have hsz2 := hm.mods.size
  refine ⟨hr, h.ended.mods hm.mods h.ended.lt h.out.1, ⟨?_, h.out.2⟩, fun g hg => ?_, ⟨h.mods.mods.trans (hm.mods.mono hsz fun g hlt hf => (h.fp g hf).2.1 hlt), h.mods.bytes.trans hm.bytes⟩⟩
  · rintro (hf | hf)
    · exact h.out.1 hf
    · have := h.ended.lt
      omega
  · rcases hg with hg | hg
    · exact ⟨(h.fp g hg).1, (h.fp g hg).2.1, Nat.lt_of_lt_of_le (h.fp g hg).2.2 hsz2⟩
    · exact ⟨.inr (Nat.le_trans hsz hg.1), fun h => by omega, hg.2⟩
/-- The row of ended tapes is written. -/
theorem BtS.mark (h : BtS S F w wr r p left D T V W gE ds es Fp) {x : Wr} (hx : x.dev < p.devs.length) : BtS S F w (wr.setCell ⟨gE, x.dev, none⟩ (.bool true)) r p left D T V W gE ds (es ++ [x.dev]) Fp := by
  have hm : Mods wr.heap.size (fun g => g = gE) wr (wr.setCell ⟨gE, x.dev, none⟩ (.bool true)) := (Mods.refl wr.heap.size (fun g => g = gE) wr).setCell (p := ⟨gE, x.dev, none⟩) (.inl rfl) _
  have hk : BytesKept wr (wr.setCell ⟨gE, x.dev, none⟩ (.bool true)) := BytesKept.of fun t ht g cs hh =>
    Blk.far (w := wr) (g := g) (t := t) (cs := cs) hh (p := ⟨gE, x.dev, none⟩) (Blk.ne_ (w := wr) (g := g) (t := t) (cs := cs) hh h.ended (by rcases ht with rfl | rfl <;> decide)) _
  refine ⟨h.ref.mods hm (fun g hlt hf => ⟨hlt, fun e => h.out.1 (e ▸ hf)⟩) hk, ?_, h.out, fun g hg => ⟨(h.fp g hg).1, (h.fp g hg).2.1, Nat.lt_of_lt_of_le (h.fp g hg).2.2 hm.size⟩, ⟨h.mods.mods.trans (hm.mono h.mods.mods.size fun g hlt he => ?_), h.mods.bytes.trans hk⟩⟩
  · have := h.ended.set_ x.dev (.bool true)
    rwa [endCells_set hx] at this
  · have h1 := h.out.2
    have he' : g = gE := he
    omega
/-- A block that is not the plant's turned: the box, or bytes just made. -/
theorem BtS.beside (h : BtS S F w wr r p left D T V W gE ds es Fp) {H : Nat → Prop} (hm : Mods wr.heap.size H wr w') (hH : ∀ g, H g → ¬ Fp g ∧ g ≠ gE ∧ w.heap.size ≤ g) (hk : BytesKept wr w') : BtS S F w w' r p left D T V W gE ds es Fp :=
  ⟨h.ref.mods hm (fun g hlt hf => ⟨hlt, fun hh => (hH g hh).1 hf⟩) hk, h.ended.mods hm h.ended.lt (fun hh => (hH gE hh).2.1 rfl), h.out, fun g hg => ⟨(h.fp g hg).1, (h.fp g hg).2.1, Nat.lt_of_lt_of_le (h.fp g hg).2.2 hm.size⟩,
    ⟨h.mods.mods.trans (hm.mono h.mods.mods.size fun g hlt hh => by have := (hH g hh).2.2; omega), h.mods.bytes.trans hk⟩⟩
end
/-- A sector torn so far. -/
def tornTo (b : List UInt8) (j : Nat) : List UInt8 := b.take 32 ++ List.replicate (j - 32) 0 ++ b.drop j
theorem tornTo_start (b : List UInt8) : tornTo b 32 = b := by
  unfold tornTo
  simp
theorem tornTo_end {b : List UInt8} (h : b.length = 64) : tornTo b 64 = torn b := by
  unfold tornTo torn
  rw [List.drop_eq_nil_of_le (by omega)]
  simp
theorem tornTo_len {b : List UInt8} (h : b.length = 64) {j : Nat} (h1 : 32 ≤ j) (h2 : j ≤ 64) : (tornTo b j).length = 64 := by
  unfold tornTo
  simp [h]
  omega
theorem tornTo_next {b : List UInt8} (h : b.length = 64) {j : Nat} (h1 : 32 ≤ j) (h2 : j < 64) : (tornTo b j).set j 0 = tornTo b (j + 1) := by
  unfold tornTo
  refine List.ext_getElem? fun i => ?_
  rw [List.getElem?_set]
  simp only [List.getElem?_append, List.getElem?_take, List.getElem?_replicate, List.getElem?_drop, List.length_append, List.length_take, List.length_replicate, List.length_drop, h]
  repeat' split
  all_goals first
    | rfl
    | (exfalso; omega)
    | (congr 1; omega)
/-- The bytes are torn one by one. -/
def TnR (wm : World) (g : Nat) (b : List UInt8) (jv : Value) (wr : World) : Prop :=
  ∃ (j : Nat) (cs : Array Value), 32 ≤ j ∧ j ≤ 64 ∧ jv = .int .i64 (j : Int) ∧ Below wm.heap.size wm wr ∧ Blk wr g 5 cs ∧ cs.toList.take 64 = (tornTo b j).map B8
theorem tn_cell {b : List UInt8} (h : b.length = 64) {j : Nat} (h1 : 32 ≤ j) (h2 : j < 64) {cs : Array Value} (hc : cs.toList.take 64 = (tornTo b j).map B8) : ∃ v, cs[j]? = some v := by
  have hl : (cs.toList.take 64).length = 64 := by rw [hc, List.length_map, tornTo_len h h1 (by omega)]
  rw [List.length_take, Array.length_toList] at hl
  exact ⟨cs[j]'(by omega), Array.getElem?_eq_getElem (by omega)⟩
theorem tn_next {b : List UInt8} (h : b.length = 64) {j : Nat} (h1 : 32 ≤ j) (h2 : j < 64) {cs : Array Value} (hc : cs.toList.take 64 = (tornTo b j).map B8) : (cs.setIfInBounds j (.int .u8 0)).toList.take 64 = (tornTo b (j + 1)).map B8 := by
  rw [Array.toList_setIfInBounds, List.take_set, hc, ← tornTo_next h h1 h2, List.map_set]
  rfl
end Go.Proofs.Ytomncfiklkhfjaa.Ref
