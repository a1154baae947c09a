/- A page's sectors, written and read. No program. -/
import Derived.Test.YtookhagpgkefpaaDoorPagRead
import Derived.Test.YtookhagpgkefpaaDoorFold10
namespace Go.Proofs.YtookhagpgkefpaaDoor.Pag
open Go Go.RowKit Mem Pl Disk Crc _root_.Go.Proofs.YtookhagpgkefpaaDoor.Frame
def chunkM (t : List UInt8) (j : Nat) : List UInt8 := (t.drop (64 * j)).take 64
theorem chunk_len {t : List UInt8} {m j : Nat} (ht : t.length = 64 * m) (hj : j < m) : (chunkM t j).length = 64 := by
  unfold chunkM
  rw [List.length_take, List.length_drop]
  omega
/-- What is written. -/
def wsM (at_ : Nat) (t : List UInt8) (i : Nat) : Ws := (List.range i).map fun j => (at_ + j, chunkM t j)
theorem wsM_next (at_ : Nat) (t : List UInt8) (i : Nat) : wsM at_ t i ++ [(at_ + i, chunkM t i)] = wsM at_ t (i + 1) := by
  unfold wsM
  rw [List.range_succ]
  simp
theorem wsM_in {at_ : Nat} {t : List UInt8} {i : Nat} {y : Nat × List UInt8} (h : y ∈ wsM at_ t i) : at_ ≤ y.1 ∧ y.1 < at_ + i := by
  obtain ⟨j, hj, rfl⟩ := List.mem_map.1 h
  have := List.mem_range.1 hj
  exact ⟨by show at_ ≤ at_ + j; omega, by show at_ + j < at_ + i; omega⟩
theorem joinV_chunks {f : Nat → List UInt8} {at_ : Nat} {t : List UInt8} : ∀ i, (∀ j, j < i → f (at_ + j) = chunkM t j) → joinV f at_ i = t.take (64 * i)
  | 0, _ => by simp [joinV]
  | i + 1, h => by
    unfold joinV
    rw [joinV_chunks i fun j hj => h j (by omega), h i (by omega)]
    unfold chunkM
    rw [show 64 * (i + 1) = 64 * i + 64 by omega, List.take_add]
theorem readPg_page {f : Nat → List UInt8} {page : Nat} {b : List UInt8} (hb : b.length ≤ 500) (h : ∀ j, j < 8 → f (2 + page * 8 + j) = chunkM (pageM b) j) : readPg f page = some b := by
  unfold readPg
  rw [joinV_chunks 8 h, List.take_of_length_le (by rw [pageM_len hb]; omega)]
  exact readPage_pageM hb
/-- The bytes of a page ahead of the noughts. -/
def pageH (b : List UInt8) : List UInt8 := beB b.length 2 ++ beB (more 0#32 b).toNat 4 ++ b
theorem pageH_len (b : List UInt8) : (pageH b).length = 6 + b.length := by unfold pageH; simp [beB_length]; omega
theorem pageM_eq (b : List UInt8) : pageM b = pageH b ++ List.replicate (506 - b.length) 0 := by unfold pageM pageH; simp
/-- One of its sectors, as it is made. -/
theorem chunk_page {b : List UInt8} (hb : b.length ≤ 500) {i : Nat} (_hi : i < 8) (h : 64 * i < 6 + b.length) :
    List.take 0 zeros ++ List.take (min (6 + b.length - 64 * i) 64) ((pageH b).drop (64 * i)) ++ List.drop (0 + min (6 + b.length - 64 * i) 64) zeros = chunkM (pageM b) i := by
  have hl := pageH_len b
  unfold chunkM
  rw [pageM_eq, List.drop_append_of_le_length (by omega), List.take_zero, List.nil_append, Nat.zero_add]
  have hz : List.drop (min (6 + b.length - 64 * i) 64) zeros = List.replicate (64 - min (6 + b.length - 64 * i) 64) 0 := by unfold zeros; rw [List.drop_replicate]
  rw [hz]
  by_cases h64 : 64 ≤ 6 + b.length - 64 * i
  · rw [Nat.min_eq_right h64, List.take_append_of_le_length (by rw [List.length_drop]; omega)]
    simp
  · rw [Nat.min_eq_left (by omega), List.take_append, List.length_drop, hl, List.take_of_length_le (l := (pageH b).drop (64 * i)) (by rw [List.length_drop]; omega), List.take_of_length_le (l := (pageH b).drop (64 * i)) (by rw [List.length_drop]; omega), List.take_replicate]
    congr 2
    omega
theorem chunk_past {b : List UInt8} (_hb : b.length ≤ 500) {i : Nat} (hi : i < 8) (h : ¬ 64 * i < 6 + b.length) : zeros = chunkM (pageM b) i := by
  have hl := pageH_len b
  unfold chunkM
  rw [pageM_eq, List.drop_append, List.drop_of_length_le (by omega), List.nil_append, List.drop_replicate, List.take_replicate]
  unfold zeros
  congr 1
  omega
/-- Sectors that are written later count. -/
theorem virt_append (H : List (List UInt8)) (ws vs : Ws) (k : Nat) : virt H (ws ++ vs) k = lastAt vs k (virt H ws k) := by
  unfold virt lastAt
  rw [List.foldl_append]
theorem lastAt_wsM (at_ : Nat) (t : List UInt8) : ∀ (i k : Nat) (b : List UInt8), lastAt (wsM at_ t i) k b = if at_ ≤ k ∧ k < at_ + i then chunkM t (k - at_) else b
  | 0, k, b => by
    rw [if_neg (by omega)]
    rfl
  | i + 1, k, b => by
    rw [← wsM_next]
    have e : lastAt (wsM at_ t i ++ [(at_ + i, chunkM t i)]) k b = if at_ + i = k then chunkM t i else lastAt (wsM at_ t i) k b := by
      unfold lastAt
      rw [List.foldl_append]
      rfl
    rw [e, lastAt_wsM at_ t i k b]
    by_cases h : at_ + i = k
    · rw [if_pos h, if_pos (by omega), show k - at_ = i by omega]
    · rw [if_neg h]
      by_cases h2 : at_ ≤ k ∧ k < at_ + i
      · rw [if_pos h2, if_pos (by omega)]
      · rw [if_neg h2, if_neg (by omega)]
end Go.Proofs.YtookhagpgkefpaaDoor.Pag
/- The pager's 'Open', in plain terms and in memory: what it makes of two superblocks. -/
namespace Go.Proofs.YtookhagpgkefpaaDoor.Pag
open Go Go.RowKit Mem Pl Disk Crc _root_.Go.Proofs.YtookhagpgkefpaaDoor.Frame
def pg0 (q : Nat) : PgM := ⟨q, 0, 0, no48, no48⟩
/-- The greater superblock counts. -/
def opStep (m : PgM) (b : List UInt8) : PgM := if okSup b && decide (m.gen < be (b.take 8)) then { m with gen := be (b.take 8), root := (be ((b.drop 8).take 2) : Int) - 1, use := (b.drop 10).take 48 } else m
def opsM (f : Nat → List UInt8) (q : Nat) : Nat → PgM
  | 0 => pg0 q
  | i + 1 => opStep (opsM f q i) (f i)
theorem opStep_pages (m : PgM) (b : List UInt8) : (opStep m b).pages = m.pages ∧ (opStep m b).was = m.was := by unfold opStep; split <;> exact ⟨rfl, rfl⟩
theorem opsM_pages (f : Nat → List UInt8) (q : Nat) : ∀ i, (opsM f q i).pages = q ∧ (opsM f q i).was = no48
  | 0 => ⟨rfl, rfl⟩
  | i + 1 => by
    have h := opStep_pages (opsM f q i) (f i)
    exact ⟨h.1.trans (opsM_pages f q i).1, h.2.trans (opsM_pages f q i).2⟩
theorem opsM_gen (f : Nat → List UInt8) (q : Nat) : ∀ i, (opsM f q i).gen < 9223372036854775808
  | 0 => by show 0 < _; omega
  | i + 1 => by
    have h := opsM_gen f q i
    show (opStep (opsM f q i) (f i)).gen < _
    unfold opStep
    split
    · rename_i hc
      simp at hc
      exact (okSup_lt hc.1).2
    · exact h
theorem opsM_root (f : Nat → List UInt8) (q : Nat) (hf : ∀ i, i < 2 → (f i).length = 64) : ∀ i, i ≤ 2 → -1 ≤ (opsM f q i).root ∧ (opsM f q i).root < 65536
  | 0, _ => by show -1 ≤ (0 : Int) ∧ (0 : Int) < 65536; omega
  | i + 1, hi => by
    have h := opsM_root f q hf i (by omega)
    show -1 ≤ (opStep (opsM f q i) (f i)).root ∧ (opStep (opsM f q i) (f i)).root < 65536
    unfold opStep
    split
    · have := be_lt (((f i).drop 8).take 2)
      rw [show (((f i).drop 8).take 2).length = 2 by simp [hf i (by omega)]] at this
      simp only
      omega
    · exact h
/-- Are the pages in use pages of the disk? -/
def useOk (m : PgM) (n : Nat) : Bool := (List.range n).all fun i => !(decide (m.pages ≤ i) && hasB m.use i)
theorem useOk_next (m : PgM) (n : Nat) : useOk m (n + 1) = (useOk m n && !(decide (m.pages ≤ n) && hasB m.use n)) := by
  unfold useOk
  rw [List.range_succ, List.all_append]
  simp
theorem useOk_less {m : PgM} {i n : Nat} (h : useOk m i = false) (hi : i ≤ n) : useOk m n = false := by
  unfold useOk at *
  rw [List.all_eq_false] at *
  obtain ⟨x, hx, h⟩ := h
  exact ⟨x, List.mem_range.2 (by have := List.mem_range.1 hx; omega), h⟩
def rootOk (m : PgM) : Bool := !(m.gen == 0 || decide ((m.pages : Int) ≤ m.root) || (decide (0 ≤ m.root) && !hasB m.use m.root.toNat))
/-- The pager that is there, if there is one. -/
def openM (f : Nat → List UInt8) (q : Nat) : Option PgM := if useOk (opsM f q 2) 384 && rootOk (opsM f q 2) then some { opsM f q 2 with was := (opsM f q 2).use } else none
section
variable {w w' : World} {g a dev : Nat} {m : PgM}
theorem PgB.setGen (x : PgB w g a dev m) (G : Nat) : PgB (w.setCell ⟨g, 3, none⟩ (.int .u64 (G : Int))) g a dev { m with gen := G } := by
  refine ⟨?_, x.ul, x.wl⟩
  have := x.blk.set_ 3 (.int .u64 (G : Int))
  simpa [pgCells] using this
theorem PgB.setRoot (x : PgB w g a dev m) (r : Int) : PgB (w.setCell ⟨g, 4, none⟩ (.int .i64 r)) g a dev { m with root := r } := by
  refine ⟨?_, x.ul, x.wl⟩
  have := x.blk.set_ 4 (.int .i64 r)
  simpa [pgCells] using this
theorem pgCells_len (a dev : Nat) (m : PgM) : (pgCells a dev m).length = 5 + (m.use.length + m.was.length) := by simp [pgCells]; omega
theorem pgCells_use (a dev : Nat) (m : PgM) (use : List UInt8) (hu : m.use.length = 48) : (pgCells a dev m).take 5 ++ use.map B8 ++ (pgCells a dev m).drop (5 + 48) = pgCells a dev { m with use := use } := by
  unfold pgCells
  rw [List.take_append_of_le_length (by simp), List.drop_append, List.drop_append]
  simp [hu]
theorem pgCells_was (a dev : Nat) (m : PgM) (was : List UInt8) (hu : m.use.length = 48) (hw : m.was.length = 48) : (pgCells a dev m).take 53 ++ was.map B8 ++ (pgCells a dev m).drop (53 + 48) = pgCells a dev { m with was := was } := by
  unfold pgCells
  rw [List.take_append, List.take_append, List.drop_append, List.drop_append]
  simp [hu]
  rw [List.take_of_length_le (by simp [hu]), List.drop_of_length_le (by simp [hu]), List.drop_of_length_le (by simp [hw])]
  simp
theorem PgB.range5 (x : PgB w g a dev m) : w.rangeAt g 5 (m.use.map B8) := fun j v hv => by
  obtain ⟨hj, e⟩ := List.getElem?_eq_some_iff.1 hv
  simp at hj
  have := x.useAt j (by have := x.ul; omega)
  rw [this, ← e]
  simp [B8, List.getD_eq_getElem?_getD, hj]
end
end Go.Proofs.YtookhagpgkefpaaDoor.Pag
/- What is so of a pager on its disk, in plain terms: what it says is committed is there, what waits touches none of it. No program. -/
namespace Go.Proofs.YtookhagpgkefpaaDoor.Pag
open Go Go.RowKit Mem Pl Disk Crc _root_.Go.Proofs.YtookhagpgkefpaaDoor.Frame
theorem slot_lt (gen : Nat) : slotM gen < 2 := Nat.mod_lt _ (by omega)
theorem slot_next (gen : Nat) : slotM (gen + 1) = 1 - slotM gen := by unfold slotM; omega
/-- The superblock that a sector has. -/
structure IsSup (b : List UInt8) (gen r1 : Nat) (use : List UInt8) : Prop where
  ok : okSup b = true
  gen : be (b.take 8) = gen
  root : be ((b.drop 8).take 2) = r1
  use : (b.drop 10).take 48 = use
theorem isSup_superM {gen r1 : Nat} {use : List UInt8} (hu : use.length = 48) (hg : 0 < gen) (hg2 : gen < 9223372036854775808) (hr : r1 < 65536) : IsSup (superM gen r1 use) gen r1 use := by
  have h := readSup_superM hu hg hg2 hr
  rw [readSup_ok] at h
  cases hok : okSup (superM gen r1 use) with
  | false => rw [hok] at h; cases h
  | true =>
    rw [hok] at h
    simp only [if_true, Option.some.injEq, Prod.mk.injEq] at h
    exact ⟨hok, h.1, h.2.1, h.2.2⟩
theorem okSup_zeros : okSup zeros = false := by decide +kernel
/-- The pager as it is opened anew. -/
def PgM.drop (m : PgM) : PgM := { m with use := m.was }
structure Inv (N : Nat) (H : List (List UInt8)) (ws : Ws) (m : PgM) (T C : Nat → List UInt8) : Prop where
  n1 : 1 ≤ m.pages
  n384 : m.pages ≤ 384
  fit : 2 + 8 * m.pages ≤ N
  len : H.length = N
  ul : m.use.length = 48
  wl : m.was.length = 48
  gen1 : 1 ≤ m.gen
  genB : m.gen < 4000000000000000000
  newer : ∃ r1 : Nat, m.root + 1 = (r1 : Int) ∧ IsSup (H.getD (slotM m.gen) zeros) m.gen r1 m.was
  older : okSup (H.getD (1 - slotM m.gen) zeros) = true → be ((H.getD (1 - slotM m.gen) zeros).take 8) < m.gen
  far : ∀ x ∈ ws, ∃ page, page < m.pages ∧ hasB m.was page = false ∧ 2 + page * 8 ≤ x.1 ∧ x.1 < 2 + page * 8 + 8
  useIn : ∀ i, hasB m.use i = true → i < m.pages
  wasIn : ∀ i, hasB m.was i = true → i < m.pages
  root : m.root = -1 ∨ ∃ r : Nat, m.root = (r : Int) ∧ hasB m.was r = true
  useTxt : ∀ page, hasB m.use page = true → (T page).length ≤ 500 ∧ ∀ j, j < 8 → virt H ws (2 + page * 8 + j) = chunkM (pageM (T page)) j
  wasTxt : ∀ page, hasB m.was page = true → (C page).length ≤ 500 ∧ ∀ j, j < 8 → H.getD (2 + page * 8 + j) zeros = chunkM (pageM (C page)) j
theorem virt_far {H : List (List UInt8)} {ws : Ws} {k : Nat} (h : ∀ x ∈ ws, x.1 ≠ k) : virt H ws k = H.getD k zeros := lastAt_far ws k _ h
theorem getD_setAll {H : List (List UInt8)} {ws : Ws} {k : Nat} (hk : k < H.length) : (setAll ws H).getD k zeros = virt H ws k := by
  unfold virt
  rw [List.getD_eq_getElem?_getD, List.getD_eq_getElem?_getD, List.getElem?_eq_getElem hk, setAll_get ws k H _ (List.getElem?_eq_getElem hk)]
  rfl
theorem virt_nil (H : List (List UInt8)) (k : Nat) : virt H [] k = H.getD k zeros := rfl
section
variable {N : Nat} {H : List (List UInt8)} {ws vs : Ws} {m : PgM} {T C : Nat → List UInt8}
theorem Inv.heads (h : Inv N H ws m T C) {k : Nat} (hk : k < 2) : virt H ws k = H.getD k zeros := virt_far fun x hx e => by
  obtain ⟨page, _, _, h1, _⟩ := h.far x hx
  omega
theorem Inv.wasVirt (h : Inv N H ws m T C) {page j : Nat} (hp : hasB m.was page = true) (hj : j < 8) : virt H ws (2 + page * 8 + j) = H.getD (2 + page * 8 + j) zeros := virt_far fun x hx e => by
  obtain ⟨q, _, hq, h1, h2⟩ := h.far x hx
  have : q = page := by omega
  rw [this, hp] at hq
  cases hq
theorem Inv.dropped (h : Inv N H ws m T C) : Inv N H ws m.drop C C :=
  ⟨h.n1, h.n384, h.fit, h.len, h.wl, h.wl, h.gen1, h.genB, h.newer, h.older, h.far, h.wasIn, h.wasIn, h.root,
    fun page hp => ⟨(h.wasTxt page hp).1, fun j hj => by rw [h.wasVirt hp hj]; exact (h.wasTxt page hp).2 j hj⟩, h.wasTxt⟩
/-- What is opened. -/
theorem Inv.opened (h : Inv N H ws m T C) : openM (virt H ws) m.pages = some m.drop := by
  obtain ⟨r1, hr1, hs⟩ := h.newer
  have hg := h.gen1
  have e : opsM (virt H ws) m.pages 2 = { m with use := m.was, was := no48 } := by
    have hstep : ∀ (p : PgM), p.gen < m.gen → opStep p (H.getD (slotM m.gen) zeros) = { p with gen := m.gen, root := m.root, use := m.was } := fun p hp => by
      unfold opStep
      rw [hs.ok, hs.gen, hs.root, hs.use]
      simp only [Bool.true_and, hp, decide_true, if_true]
      congr 1
      omega
    have hold : ∀ (p : PgM), p.gen = m.gen → opStep p (H.getD (1 - slotM m.gen) zeros) = p := fun p hp => by
      unfold opStep
      rw [if_neg]
      simp only [Bool.and_eq_true, decide_eq_true_eq]
      rintro ⟨h1, h2⟩
      have := h.older h1
      omega
    have hold0 : (opStep (pg0 m.pages) (H.getD (1 - slotM m.gen) zeros)).gen < m.gen ∧ (opStep (pg0 m.pages) (H.getD (1 - slotM m.gen) zeros)).pages = m.pages ∧ (opStep (pg0 m.pages) (H.getD (1 - slotM m.gen) zeros)).was = no48 := by
      refine ⟨?_, (opStep_pages _ _).1, (opStep_pages _ _).2⟩
      unfold opStep
      split
      · rename_i hc
        simp only [Bool.and_eq_true, decide_eq_true_eq] at hc
        exact h.older hc.1
      · exact hg
    show opStep (opStep (pg0 m.pages) (virt H ws 0)) (virt H ws 1) = _
    rw [h.heads (by omega), h.heads (by omega)]
    rcases Nat.lt_or_ge (slotM m.gen) 1 with h0 | h0
    · have e0 : slotM m.gen = 0 := by omega
      rw [e0] at hstep hold
      rw [show (1 : Nat) - 0 = 1 from rfl] at hold
      rw [hstep _ (show (0 : Nat) < m.gen from hg)]
      exact hold { m with use := m.was, was := no48 } rfl
    · have e1 : slotM m.gen = 1 := by have := slot_lt m.gen; omega
      rw [e1] at hstep hold0
      rw [hstep _ hold0.1]
      obtain ⟨_, h2, h3⟩ := hold0
      generalize opStep (pg0 m.pages) (H.getD (1 - 1) zeros) = p at *
      cases p
      simp only at h2 h3
      subst h2 h3
      rfl
  unfold openM
  rw [e]
  have h1 : useOk { m with use := m.was, was := no48 } 384 = true := by
    unfold useOk
    rw [List.all_eq_true]
    intro i _
    cases hb : hasB m.was i with
    | false => simp
    | true => have := h.wasIn i hb; simp; omega
  have h2 : rootOk { m with use := m.was, was := no48 } = true := by
    unfold rootOk
    have hgn : ¬ m.gen = 0 := by omega
    rcases h.root with hr | ⟨r, hr, hb⟩
    · have hp : ¬ (m.pages : Int) ≤ -1 := by omega
      simp [hr, hgn, hp]
    · have := h.wasIn r hb
      have hp : ¬ (m.pages : Int) ≤ (r : Int) := by omega
      simp [hr, hgn, hb]
      omega
  rw [h1, h2]
  rfl
/-- A boot: some of what waited lasts. -/
theorem Inv.sub (h : Inv N H ws m T C) (hv : vs.Sublist ws) : Inv N (setAll vs H) [] m.drop C C := by
  have hfar : ∀ x ∈ vs, ∃ page, page < m.pages ∧ hasB m.was page = false ∧ 2 + page * 8 ≤ x.1 ∧ x.1 < 2 + page * 8 + 8 := fun x hx => h.far x (hv.subset hx)
  have hk : ∀ k, k < 2 → (setAll vs H).getD k zeros = H.getD k zeros := fun k hk => by
    rw [List.getD_eq_getElem?_getD, List.getD_eq_getElem?_getD, setAll_far vs k H fun x hx e => by
      obtain ⟨page, _, _, h1, _⟩ := hfar x hx
      omega]
  have ht : ∀ page, hasB m.was page = true → ∀ j, j < 8 → (setAll vs H).getD (2 + page * 8 + j) zeros = H.getD (2 + page * 8 + j) zeros := fun page hp j hj => by
    rw [List.getD_eq_getElem?_getD, List.getD_eq_getElem?_getD, setAll_far vs _ H fun x hx e => by
      obtain ⟨q, _, hq, h1, h2⟩ := hfar x hx
      have : q = page := by omega
      rw [this, hp] at hq
      cases hq]
  have h1 := slot_lt m.gen
  have hw : ∀ page, hasB m.was page = true → (C page).length ≤ 500 ∧ ∀ j, j < 8 → (setAll vs H).getD (2 + page * 8 + j) zeros = chunkM (pageM (C page)) j := fun page hp => ⟨(h.wasTxt page hp).1, fun j hj => by rw [ht page hp j hj]; exact (h.wasTxt page hp).2 j hj⟩
  exact ⟨h.n1, h.n384, h.fit, by rw [setAll_len]; exact h.len, h.wl, h.wl, h.gen1, h.genB, by show ∃ r1 : Nat, _ ∧ IsSup ((setAll vs H).getD (slotM m.gen) zeros) _ _ _; rw [hk _ h1]; exact h.newer,
    by show okSup ((setAll vs H).getD (1 - slotM m.gen) zeros) = true → be (((setAll vs H).getD (1 - slotM m.gen) zeros).take 8) < m.gen; rw [hk _ (by omega)]; exact h.older, fun x hx => absurd hx (by simp), h.wasIn, h.wasIn, h.root, hw, hw⟩
/-- All that waited lasts. -/
theorem Inv.flushed (h : Inv N H ws m T C) : Inv N (setAll ws H) [] m T C := by
  have h0 := h.sub (List.Sublist.refl ws)
  refine ⟨h.n1, h.n384, h.fit, h0.len, h.ul, h.wl, h.gen1, h.genB, h0.newer, h0.older, h0.far, h.useIn, h.wasIn, h.root, fun page hp => ⟨(h.useTxt page hp).1, fun j hj => ?_⟩, h0.wasTxt⟩
  have := h.useIn page hp
  have := h.fit
  rw [virt_nil, getD_setAll (by rw [h.len]; omega)]
  exact (h.useTxt page hp).2 j hj
theorem Inv.freed (h : Inv N H ws m T C) (page : Nat) (hp : page < 384) : Inv N H ws { m with use := setB m.use page false } T C := by
  have hb : ∀ i, hasB (setB m.use page false) i = true → hasB m.use i = true := fun i hi => by
    rw [setB_has (by rw [h.ul]; omega)] at hi
    split at hi
    · cases hi
    · exact hi
  exact ⟨h.n1, h.n384, h.fit, h.len, by show (setB m.use page false).length = 48; rw [setB_len]; exact h.ul, h.wl, h.gen1, h.genB, h.newer, h.older, h.far, fun i hi => h.useIn i (hb i hi), h.wasIn, h.root, fun i hi => h.useTxt i (hb i hi), h.wasTxt⟩
/-- No page in use. -/
theorem hasB_no48 (i : Nat) : hasB no48 i = false := by
  unfold hasB no48
  rw [List.getD_eq_getElem?_getD, List.getElem?_replicate]
  split <;> simp
theorem Inv.none_ (h : Inv N H ws m T C) : Inv N H ws { m with use := no48 } T C := by
  have hb : ∀ i, hasB no48 i = true → False := fun i hi => by rw [hasB_no48] at hi; cases hi
  exact ⟨h.n1, h.n384, h.fit, h.len, no48_len, h.wl, h.gen1, h.genB, h.newer, h.older, h.far, fun i hi => (hb i hi).elim, h.wasIn, h.root, fun i hi => (hb i hi).elim, h.wasTxt⟩
theorem free_iff (m : PgM) (page : Nat) : m.free page = true ↔ hasB m.use page = false ∧ hasB m.was page = false := by
  unfold PgM.free
  simp
/-- A page that is written, or a part of it. -/
theorem Inv.part (h : Inv N H ws m T C) {page : Nat} (hp : page < m.pages) (hf : m.free page = true) (t : List UInt8) {i : Nat} (hi : i ≤ 8) : Inv N H (ws ++ wsM (2 + page * 8) t i) m T C := by
  obtain ⟨h1, h2⟩ := (free_iff m page).1 hf
  refine ⟨h.n1, h.n384, h.fit, h.len, h.ul, h.wl, h.gen1, h.genB, h.newer, h.older, fun x hx => ?_, h.useIn, h.wasIn, h.root, fun q hq => ⟨(h.useTxt q hq).1, fun j hj => ?_⟩, h.wasTxt⟩
  · rcases List.mem_append.1 hx with hx | hx
    · exact h.far x hx
    · have := wsM_in hx
      exact ⟨page, hp, h2, this.1, by omega⟩
  · have hne : q ≠ page := fun e => by rw [e, h1] at hq; cases hq
    rw [virt_append, lastAt_wsM, if_neg (by omega)]
    exact (h.useTxt q hq).2 j hj
theorem Inv.put (h : Inv N H ws m T C) {page : Nat} (hp : page < m.pages) (hf : m.free page = true) {b : List UInt8} (hb : b.length ≤ 500) :
    Inv N H (ws ++ wsM (2 + page * 8) (pageM b) 8) { m with use := setB m.use page true } (fun q => if q = page then b else T q) C := by
  have h0 := h.part hp hf (pageM b) (Nat.le_refl 8)
  have h384 := h.n384
  have hs : ∀ i, hasB (setB m.use page true) i = true → i = page ∨ hasB m.use i = true := fun i hi => by
    rw [setB_has (by rw [h.ul]; omega)] at hi
    split at hi
    · exact .inl (by assumption)
    · exact .inr hi
  refine ⟨h.n1, h.n384, h.fit, h.len, by show (setB m.use page true).length = 48; rw [setB_len]; exact h.ul, h.wl, h.gen1, h.genB, h.newer, h.older, h0.far, fun i hi => ?_, h.wasIn, h.root, fun q hq => ?_, h.wasTxt⟩
  · rcases hs i hi with rfl | hi
    · exact hp
    · exact h.useIn i hi
  · by_cases he : q = page
    · subst he
      simp only [if_true]
      refine ⟨hb, fun j hj => ?_⟩
      rw [virt_append, lastAt_wsM, if_pos (by omega)]
      congr 1
      omega
    · simp only [he, if_false]
      exact h0.useTxt q ((hs q hq).resolve_left he)
/-- A commit. -/
theorem Inv.committed (h : Inv N H ws m T C) {root : Int} (hr : root = -1 ∨ ∃ r : Nat, root = (r : Int) ∧ hasB m.use r = true) (hg : m.gen < 3000000000000000000) :
    Inv N (setAll [(slotM (m.gen + 1), superM (m.gen + 1) (root + 1).toNat m.use)] (setAll ws H)) [] { m with gen := m.gen + 1, root := root, was := m.use } T T := by
  have h0 := h.flushed
  have hsl := slot_lt m.gen
  have hsn := slot_next m.gen
  have hfit := h.fit
  have hl : (setAll ws H).length = N := h0.len
  generalize setAll ws H = K at *
  have hr1 : ∃ r1 : Nat, root + 1 = (r1 : Int) ∧ r1 < 65536 := by
    rcases hr with hr | ⟨r, hr, hb⟩
    · exact ⟨0, by omega, by omega⟩
    · have := h.useIn r hb
      have := h.n384
      exact ⟨r + 1, by omega, by omega⟩
  obtain ⟨r1, hr1, hr2⟩ := hr1
  have e : ∀ b, setAll [(slotM (m.gen + 1), b)] K = K.set (slotM (m.gen + 1)) b := fun b => rfl
  rw [e, hr1, Int.toNat_natCast]
  have hset : ∀ k, k ≠ slotM (m.gen + 1) → (K.set (slotM (m.gen + 1)) (superM (m.gen + 1) r1 m.use)).getD k zeros = K.getD k zeros := fun k hk => by
    rw [List.getD_eq_getElem?_getD, List.getElem?_set_ne (fun e => hk e.symm), ← List.getD_eq_getElem?_getD]
  have hself : (K.set (slotM (m.gen + 1)) (superM (m.gen + 1) r1 m.use)).getD (slotM (m.gen + 1)) zeros = superM (m.gen + 1) r1 m.use := by
    rw [List.getD_eq_getElem?_getD, List.getElem?_set_self (by omega)]
    rfl
  have htx : ∀ page, hasB m.use page = true → (T page).length ≤ 500 ∧ ∀ j, j < 8 → (K.set (slotM (m.gen + 1)) (superM (m.gen + 1) r1 m.use)).getD (2 + page * 8 + j) zeros = chunkM (pageM (T page)) j := fun page hp =>
    ⟨(h0.useTxt page hp).1, fun j hj => by rw [hset _ (by omega)]; exact (h0.useTxt page hp).2 j hj⟩
  refine ⟨h.n1, h.n384, h.fit, by rw [List.length_set]; exact hl, h.ul, h.ul, by show 1 ≤ m.gen + 1; omega, by show m.gen + 1 < _; omega, ⟨r1, hr1, ?_⟩, ?_, fun x hx => absurd hx (by simp), h.useIn, h.useIn, hr, htx, htx⟩
  · show IsSup ((K.set (slotM (m.gen + 1)) (superM (m.gen + 1) r1 m.use)).getD (slotM (m.gen + 1)) zeros) (m.gen + 1) r1 m.use
    rw [hself]
    exact isSup_superM h.ul (by omega) (by omega) hr2
  · show okSup ((K.set (slotM (m.gen + 1)) (superM (m.gen + 1) r1 m.use)).getD (1 - slotM (m.gen + 1)) zeros) = true → be (((K.set (slotM (m.gen + 1)) (superM (m.gen + 1) r1 m.use)).getD (1 - slotM (m.gen + 1)) zeros).take 8) < m.gen + 1
    rw [hset _ (by omega), show 1 - slotM (m.gen + 1) = slotM m.gen by omega]
    intro _
    obtain ⟨r, _, hs⟩ := h0.newer
    rw [hs.gen]
    omega
theorem Inv.read (h : Inv N H ws m T C) {page : Nat} (hp : hasB m.use page = true) : readPg (virt H ws) page = some (T page) := readPg_page (h.useTxt page hp).1 (h.useTxt page hp).2
end
end Go.Proofs.YtookhagpgkefpaaDoor.Pag
