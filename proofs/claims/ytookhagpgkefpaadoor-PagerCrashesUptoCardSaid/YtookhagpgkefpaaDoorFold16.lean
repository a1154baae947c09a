/- A pager in a law's hands: what each call does to it, in plain terms. -/
import Derived.Test.YtookhagpgkefpaaDoorFold12
import Derived.Test.YtookhagpgkefpaaDoorPagCommit
import Derived.Test.YtookhagpgkefpaaDoorPagOpen
import Derived.Test.YtookhagpgkefpaaDoorPlNew
namespace Go.Proofs.YtookhagpgkefpaaDoor.Pag
open Go Go.RowKit Mem Pl Disk Crc _root_.Go.Proofs.YtookhagpgkefpaaDoor.Frame
/-- The plant alone, its disk, in blocks of K; the power is on. -/
structure Pd1 (B : Nat) (w : World) (K : Nat → Prop) (a : Nat) (pm : PM) (n dev N : Nat) (H : List (List UInt8)) (ws : Ws) : Prop where
  inner : ∃ F, St B w F a pm n ∧ ∀ k, F k → K k
  disk : Disk pm dev N H ws
  lt : ∀ k, K k → B ≤ k ∧ k < w.heap.size
/-- .. and a pager on it. -/
structure Pg1 (B : Nat) (w : World) (K : Nat → Prop) (a : Nat) (pm : PM) (n dev N : Nat) (H : List (List UInt8)) (ws : Ws) (g : Nat) (m : PgM) : Prop where
  inner : ∃ F, PgSt B w F a pm n dev N H ws g m ∧ ∀ k, F k → K k
  own : K g
  lt : ∀ k, K k → B ≤ k ∧ k < w.heap.size
/-- The table of sums lies below the law's own. -/
structure TabB (B : Nat) (w : World) : Prop where
  tab : Tab w
  c : 0 < B
section
variable {B : Nat} {w w' : World} {K : Nat → Prop} {a : Nat} {pm : PM} {n dev N : Nat} {H : List (List UInt8)} {ws : Ws} {g : Nat} {m : PgM} {T C : Nat → List UInt8}
theorem TabB.mods (h : TabB B w) (hm : Mods w.heap.size K w w') (hK : ∀ k, K k → B ≤ k) (hB : B ≤ w.heap.size) : TabB B w' := ⟨h.tab.below (tab_below hm hB hK) h.c, h.c⟩
theorem TabB.below {D : Nat} (h : TabB B w) (hb : Below D w w') (hB : B ≤ D) : TabB B w' := ⟨h.tab.below hb (Nat.lt_of_lt_of_le h.c hB), h.c⟩
theorem Pg1.below (x : Pg1 B w K a pm n dev N H ws g m) (hb : Below w.heap.size w w') : Pg1 B w' K a pm n dev N H ws g m := by
  obtain ⟨F, h, hF⟩ := x.inner
  exact ⟨⟨F, ⟨h.st.below hb, h.disk, h.pg.below hb, h.lt, h.apart, h.n384, h.fit⟩, hF⟩, x.own, fun k hk => ⟨(x.lt k hk).1, Nat.lt_of_lt_of_le (x.lt k hk).2 hb.size⟩⟩
theorem Pg1.more (x : Pg1 B w K a pm n dev N H ws g m) {n' : Nat} (hn : n ≤ n') : Pg1 B w K a pm n' dev N H ws g m := by
  obtain ⟨F, h, hF⟩ := x.inner
  exact ⟨⟨F, ⟨st_more h.st hn, h.disk, h.pg, h.lt, h.apart, h.n384, h.fit⟩, hF⟩, x.own, x.lt⟩
/-- What is written elsewhere leaves a pager. -/
theorem Pg1.off_ {G : Nat → Prop} {D : Nat} (x : Pg1 B w K a pm n dev N H ws g m) (hm : Mods D G w w') (hD : w.heap.size ≤ D) (hn : ∀ k, G k → ¬ K k) : Pg1 B w' K a pm n dev N H ws g m := by
  obtain ⟨F, h, hF⟩ := x.inner
  have hlt := h.pg.lt
  refine ⟨⟨F, ⟨⟨h.st.at_.mods hm fun k hk hf => ⟨by omega, fun hg => hn k hg (hF k hf)⟩, h.st.ok, fun k hk => ⟨(h.st.lt k hk).1, Nat.lt_of_lt_of_le (h.st.lt k hk).2 hm.size⟩, h.st.steps, h.st.waits⟩, h.disk, h.pg.mods hm (by omega) fun hg => hn g hg x.own, h.lt, h.apart, h.n384, h.fit⟩, hF⟩, x.own, fun k hk => ⟨(x.lt k hk).1, Nat.lt_of_lt_of_le (x.lt k hk).2 hm.size⟩⟩
theorem Pd1.below (x : Pd1 B w K a pm n dev N H ws) (hb : Below w.heap.size w w') : Pd1 B w' K a pm n dev N H ws := by
  obtain ⟨F, h, hF⟩ := x.inner
  exact ⟨⟨F, h.below hb, hF⟩, x.disk, fun k hk => ⟨(x.lt k hk).1, Nat.lt_of_lt_of_le (x.lt k hk).2 hb.size⟩⟩
theorem Pd1.more (x : Pd1 B w K a pm n dev N H ws) {n' : Nat} (hn : n ≤ n') : Pd1 B w K a pm n' dev N H ws := by
  obtain ⟨F, h, hF⟩ := x.inner
  exact ⟨⟨F, st_more h hn, hF⟩, x.disk, x.lt⟩
theorem Pg1.plant (x : Pg1 B w K a pm n dev N H ws g m) : Pd1 B w K a pm n dev N H ws := by
  obtain ⟨F, h, hF⟩ := x.inner
  exact ⟨⟨F, h.st, hF⟩, h.disk, x.lt⟩
theorem Pd1.ok (x : Pd1 B w K a pm n dev N H ws) : pm.Ok := by
  obtain ⟨F, h, hF⟩ := x.inner
  exact h.ok
theorem grow_lt (h : ∀ k, K k → B ≤ k ∧ k < w.heap.size) (hB : B ≤ w.heap.size) (hs : w.heap.size ≤ w'.heap.size) : ∀ k, Grow K w w' k → B ≤ k ∧ k < w'.heap.size := fun k hk => by
  rcases hk with hk | hk
  · exact ⟨(h k hk).1, Nat.lt_of_lt_of_le (h k hk).2 hs⟩
  · exact ⟨Nat.le_trans hB hk.1, hk.2⟩
/-- How a call's frame is put together. -/
theorem pg_frame {F F' : Nat → Prop} {pm' : PM} {n' : Nat} {H' : List (List UInt8)} {ws' : Ws} {m' : PgM} (x : Pg1 B w K a pm n dev N H ws g m) (hF : ∀ k, F k → K k) (hB : B ≤ w.heap.size) (h1 : ∀ k, F' k → F k ∨ w.heap.size ≤ k) (h2 : Mods w.heap.size (fun k => F k ∨ k = g) w w') (h3 : PgSt B w' F' a pm' n' dev N H' ws' g m') :
    Pg1 B w' (Grow K w w') a pm' n' dev N H' ws' g m' ∧ Mods w.heap.size K w w' :=
  ⟨⟨⟨F', h3, fun k hk => (h1 k hk).elim (fun h => .inl (hF k h)) fun h => .inr ⟨h, (h3.st.lt k hk).2⟩⟩, .inl x.own, grow_lt x.lt hB h2.size⟩, h2.mono (Nat.le_refl _) fun k _ h => h.elim (hF k) fun e => e ▸ x.own⟩
theorem pd_frame {F' : Nat → Prop} {pm' : PM} {n' : Nat} {H' : List (List UInt8)} {ws' : Ws} {F : Nat → Prop} (x : Pd1 B w K a pm n dev N H ws) (hF : ∀ k, F k → K k) (hB : B ≤ w.heap.size) (h1 : ∀ k, F' k → F k ∨ w.heap.size ≤ k) (h2 : Mods w.heap.size F w w') (h3 : St B w' F' a pm' n') (h4 : Disk pm' dev N H' ws') :
    Pd1 B w' (Grow K w w') a pm' n' dev N H' ws' ∧ Mods w.heap.size K w w' :=
  ⟨⟨⟨F', h3, fun k hk => (h1 k hk).elim (fun h => .inl (hF k h)) fun h => .inr ⟨h, (h3.lt k hk).2⟩⟩, h4, grow_lt x.lt hB h2.size⟩, h2.mono (Nat.le_refl _) fun k _ h => hF k h⟩
/-- A pager made anew on that plant. -/
theorem pg_made {g' : Nat} (x : Pd1 B w K a pm n dev N H ws) (hB : B ≤ w.heap.size) (hb : Below w.heap.size w w') (hg : w.heap.size ≤ g') (hp : PgB w' g' a dev m) (h384 : m.pages ≤ 384) (hfit : 2 + 8 * m.pages ≤ N) : Pg1 B w' (Grow K w w') a pm n dev N H ws g' m := by
  obtain ⟨F, h, hF⟩ := x.inner
  exact ⟨⟨F, ⟨h.below hb, x.disk, hp, Nat.le_trans hB hg, fun hf => by have := (h.lt g' hf).2; omega, h384, hfit⟩, fun k hk => .inl (hF k hk)⟩, .inr ⟨hg, hp.lt⟩, grow_lt x.lt hB hb.size⟩
/-- The first page that may be put. -/
def ffree (m : PgM) : Option Nat := (List.range m.pages).find? m.free
theorem ffree_none (h : ∀ k, k < m.pages → m.free k = false) : ffree m = none := by
  unfold ffree
  rw [List.find?_eq_none]
  intro x hx
  rw [h x (List.mem_range.1 hx)]
  decide
theorem ffree_some {page : Nat} (hp : page < m.pages) (hf : m.free page = true) (h : ∀ k, k < page → m.free k = false) : ffree m = some page := by
  unfold ffree
  rw [List.find?_eq_some_iff_append]
  refine ⟨hf, List.range page, (List.range (m.pages - page - 1)).map (· + (page + 1)), ?_, fun x hx => by rw [h x (List.mem_range.1 hx)]; rfl⟩
  refine List.ext_getElem (by simp; omega) fun i h1 h2 => ?_
  rcases Nat.lt_trichotomy i page with h3 | h3 | h3
  · rw [List.getElem_append_left (by simpa using h3)]
    simp
  · subst h3
    rw [List.getElem_append_right (by simp)]
    simp
  · rw [List.getElem_append_right (by simp; omega)]
    simp only [List.length_range, List.getElem_range]
    rw [List.getElem_cons, dif_neg (by omega)]
    simp
    omega
theorem ffree_spec {page : Nat} (h : ffree m = some page) : page < m.pages ∧ m.free page = true := by
  unfold ffree at h
  have h1 := List.mem_of_find?_eq_some h
  exact ⟨List.mem_range.1 h1, List.find?_some h⟩
/-- What 'Put' does, in plain terms. -/
def putM (m : PgM) (T : Nat → List UInt8) (b : List UInt8) : PgM × (Nat → List UInt8) × Int × Int :=
  if 500 < b.length then (m, T, 0, 5) else match ffree m with
  | none => (m, T, 0, 3)
  | some p => ({ m with use := setB m.use p true }, fun q => if q = p then b else T q, p, 0)
theorem putM_pages (m : PgM) (T : Nat → List UInt8) (b : List UInt8) : (putM m T b).1.pages = m.pages ∧ (putM m T b).1.gen = m.gen ∧ (putM m T b).1.was = m.was ∧ (putM m T b).1.root = m.root := by
  unfold putM
  split
  · exact ⟨rfl, rfl, rfl, rfl⟩
  · split <;> exact ⟨rfl, rfl, rfl, rfl⟩
/-- 'Put': done, or the power went off at it. -/
theorem Pg1.put (x : Pg1 B w K a pm n dev N H ws g m) (hi : Inv N H ws m T C) (hB : B ≤ w.heap.size) (hn : n ≤ 800000000) (hon : pm.off = false) (ht : TabB B w) (A : Option Addr) (L cap : Nat) (bs : List UInt8) (hb : BAt w A bs) (hl : bs.length = L) (hLm : L ≤ 9223372036854775807) :
    Calls Tryd.prog 14 #[.pointer (some ⟨g, 0, none⟩), .slice A L cap] w fun e w' => ∃ pm' ws', Mods w.heap.size K w w' ∧
      ((e = .returned (.tuple #[.int .i64 (putM m T bs).2.2.1, .int .i64 (putM m T bs).2.2.2]) ∧ pm'.off = false ∧ (pm.fuse = none → pm'.fuse = none) ∧ Pg1 B w' (Grow K w w') a pm' (n + 8) dev N H ws' g (putM m T bs).1 ∧ Inv N H ws' (putM m T bs).1 (putM m T bs).2.1 C) ∨
       (e = .returned (.tuple #[.int .i64 0, .int .i64 2]) ∧ pm'.off = true ∧ pm.fuse ≠ none ∧ Pg1 B w' (Grow K w w') a pm' (n + 8) dev N H ws' g m ∧ Inv N H ws' m T C)) := by
  obtain ⟨F, h, hF⟩ := x.inner
  refine (put_any h hB (by omega) hon ht.tab (Nat.lt_of_lt_of_le ht.c hB) A L cap bs hb hl hLm).mono ?_
  rintro e w' (⟨h5, rfl, hb'⟩ | ⟨h5, hno, rfl, hb'⟩ | ⟨page, h5, hp, hf, hfst, F', pm', h1, h2, ⟨rfl, h3, h4, h6⟩ | ⟨rfl, h3, h4, i, hi8, h6⟩⟩)
  · have e : putM m T bs = (m, T, 0, 5) := by unfold putM; rw [if_pos h5]
    rw [e]
    have hx := (x.below hb').more (Nat.le_add_right n 8)
    exact ⟨pm, ws, Mods.of_below hb', .inl ⟨rfl, hon, fun h => h, ⟨by obtain ⟨F, h, hF⟩ := hx.inner; exact ⟨F, h, fun k hk => .inl (hF k hk)⟩, .inl hx.own, grow_lt x.lt hB hb'.size⟩, hi⟩⟩
  · have e : putM m T bs = (m, T, 0, 3) := by unfold putM; rw [if_neg (by omega), ffree_none hno]
    rw [e]
    have hx := (x.below hb').more (Nat.le_add_right n 8)
    exact ⟨pm, ws, Mods.of_below hb', .inl ⟨rfl, hon, fun h => h, ⟨by obtain ⟨F, h, hF⟩ := hx.inner; exact ⟨F, h, fun k hk => .inl (hF k hk)⟩, .inl hx.own, grow_lt x.lt hB hb'.size⟩, hi⟩⟩
  · have e : putM m T bs = ({ m with use := setB m.use page true }, fun q => if q = page then bs else T q, (page : Int), (0 : Int)) := by unfold putM; rw [if_neg (by omega), ffree_some hp hf hfst]
    rw [e]
    obtain ⟨h7, h8⟩ := pg_frame x hF hB h1 h2 h6
    exact ⟨pm', _, h8, .inl ⟨rfl, h3, h4, h7, hi.put hp hf h5⟩⟩
  · obtain ⟨h7, h8⟩ := pg_frame x hF hB h1 h2 h6
    exact ⟨pm', _, h8, .inr ⟨rfl, h3, h4, h7, hi.part hp hf _ hi8⟩⟩
/-- What 'Free' does. -/
def freeM (m : PgM) (page : Int) : PgM × Int := if m.inUse page then ({ m with use := setB m.use page.toNat false }, 0) else (m, 90)
theorem Pg1.free (x : Pg1 B w K a pm n dev N H ws g m) (hi : Inv N H ws m T C) (hB : B ≤ w.heap.size) (page : Int) :
    Calls Tryd.prog 16 #[.pointer (some ⟨g, 0, none⟩), .int .i64 page] w fun e w' => Mods w.heap.size K w w' ∧ e = .returned (.int .i64 (freeM m page).2) ∧ Pg1 B w' (Grow K w w') a pm n dev N H ws g (freeM m page).1 ∧ Inv N H ws (freeM m page).1 T C := by
  obtain ⟨F, h, hF⟩ := x.inner
  refine (pfree_any h.pg h.n384 page).mono ?_
  rintro e w' (⟨hu, rfl, rfl⟩ | ⟨hu, rfl, hp, hm⟩)
  · have e : freeM m page = (m, 90) := by unfold freeM; rw [hu]; rfl
    rw [e]
    exact ⟨Mods.refl _ _ _, rfl, ⟨⟨F, h, fun k hk => .inl (hF k hk)⟩, .inl x.own, grow_lt x.lt hB (Nat.le_refl _)⟩, hi⟩
  · have e : freeM m page = ({ m with use := setB m.use page.toNat false }, 0) := by unfold freeM; rw [hu]; rfl
    rw [e]
    obtain ⟨k, rfl, hk, _⟩ := inUse_nat hu
    have h384 := h.n384
    obtain ⟨h1, h2⟩ := com_done (m' := { m with use := setB m.use (k : Int).toNat false }) h (Nat.le_refl _) (Mods.refl _ _ _) hp rfl hm
    obtain ⟨h3, h4⟩ := pg_frame x hF hB (fun k hk => .inl hk) h1 h2
    refine ⟨h4, rfl, h3, ?_⟩
    rw [Int.toNat_natCast]
    exact hi.freed k (by omega)
/-- May that page be the root of a commit? -/
theorem rootMay_iff {root : Int} (hr : m.rootMay root = true) : root = -1 ∨ ∃ r : Nat, root = (r : Int) ∧ hasB m.use r = true := by
  unfold PgM.rootMay at hr
  simp only [Bool.or_eq_true, decide_eq_true_eq] at hr
  rcases hr with h | h
  · exact .inl h
  · obtain ⟨k, rfl, _, hb⟩ := inUse_nat h
    exact .inr ⟨k, rfl, hb⟩
/-- 'Commit': done, or the power went off at it. -/
theorem Pg1.commit (x : Pg1 B w K a pm n dev N H ws g m) (hi : Inv N H ws m T C) (hB : B ≤ w.heap.size) (hn : n ≤ 800000000) (hon : pm.off = false) (ht : TabB B w) (hgen : m.gen < 3000000000000000000) (root : Int) :
    Calls Tryd.prog 18 #[.pointer (some ⟨g, 0, none⟩), .int .i64 root] w fun e w' => ∃ pm' H' ws', Mods w.heap.size K w w' ∧
      ((m.rootMay root = false ∧ e = .returned (.int .i64 90) ∧ w = w') ∨
       (m.rootMay root = true ∧ e = .returned (.int .i64 0) ∧ pm'.off = false ∧ (pm.fuse = none → pm'.fuse = none) ∧ Pg1 B w' (Grow K w w') a pm' (n + 3) dev N H' ws' g (m.commit root) ∧ Inv N H' ws' (m.commit root) T T) ∨
       (m.rootMay root = true ∧ e = .returned (.int .i64 2) ∧ pm'.off = true ∧ pm.fuse ≠ none ∧ Pg1 B w' (Grow K w w') a pm' (n + 3) dev N H' ws' g m ∧
         ∀ vs : Ws, vs.Sublist ws' → Inv N (setAll vs H') [] m.drop C C ∨ Inv N (setAll vs H') [] (m.commit root).drop T T)) := by
  obtain ⟨F, h, hF⟩ := x.inner
  refine (commit_any h hB hn hon ht.tab ht.c (by omega) root).mono ?_
  rintro e w' (⟨hr, rfl, rfl⟩ | ⟨hr, F', pm', h1, h2, ⟨rfl, h3, h4, h6⟩ | ⟨rfl, h3, h4, h6⟩⟩)
  · exact ⟨pm, H, ws, Mods.refl _ _ _, .inl ⟨hr, rfl, rfl⟩⟩
  · obtain ⟨h7, h8⟩ := pg_frame x hF hB h1 h2 h6
    exact ⟨pm', _, _, h8, .inr (.inl ⟨hr, rfl, h3, h4, h7, hi.committed (rootMay_iff hr) hgen⟩)⟩
  · rcases h6 with h6 | h6 | h6
    · obtain ⟨h7, h8⟩ := pg_frame x hF hB h1 h2 h6
      exact ⟨pm', _, _, h8, .inr (.inr ⟨hr, rfl, h3, h4, h7, fun vs hv => .inl (hi.sub hv)⟩)⟩
    · obtain ⟨h7, h8⟩ := pg_frame x hF hB h1 h2 h6
      exact ⟨pm', _, _, h8, .inr (.inr ⟨hr, rfl, h3, h4, h7, fun vs hv => .inl (hi.flushed.sub hv)⟩)⟩
    · obtain ⟨h7, h8⟩ := pg_frame x hF hB h1 h2 h6
      refine ⟨pm', _, _, h8, .inr (.inr ⟨hr, rfl, h3, h4, h7, fun vs hv => ?_⟩)⟩
      have hc := (hi.committed (rootMay_iff hr) hgen).dropped
      cases vs with
      | nil => exact .inl (hi.flushed.sub (List.nil_sublist _))
      | cons v vs =>
        have : v :: vs = [(slotM (m.gen + 1), supOf m root)] := hv.eq_of_length_le (by simp)
        rw [this]
        exact .inr hc
theorem Pg1.root (x : Pg1 B w K a pm n dev N H ws g m) : Calls Tryd.prog 23 #[.pointer (some ⟨g, 0, none⟩)] w fun e w' => e = .returned (.int .i64 m.root) ∧ w = w' := by
  obtain ⟨F, h, hF⟩ := x.inner
  exact root_any h.pg
theorem Pg1.room (x : Pg1 B w K a pm n dev N H ws g m) : Calls Tryd.prog 24 #[.pointer (some ⟨g, 0, none⟩)] w fun e w' => e = .returned (.int .i64 (m.room m.pages : Int)) ∧ w = w' := by
  obtain ⟨F, h, hF⟩ := x.inner
  exact room_any h.pg h.n384
/-- 'Read' of a pager whose pages hold their text. -/
theorem Pg1.read (x : Pg1 B w K a pm n dev N H ws g m) (hi : Inv N H ws m T C) (hB : B ≤ w.heap.size) (hn : n ≤ 800000000) (hon : pm.off = false) (ht : TabB B w) (page : Int) :
    Calls Tryd.prog 25 #[.pointer (some ⟨g, 0, none⟩), .int .i64 page] w fun e w' => ∃ A k c, e = .returned (.tuple #[.slice A k c, .int .i64 (if m.inUse page then 0 else 90)]) ∧ Own w' w.heap.size 5 A k c (if m.inUse page then T page.toNat else []) ∧ Below w.heap.size w w' := by
  obtain ⟨F, h, hF⟩ := x.inner
  refine (pread_any h.st h.disk (by omega) hon h.pg h.n384 h.fit ht.tab (Nat.lt_of_lt_of_le ht.c hB) page).mono ?_
  rintro e w' ⟨hb, ⟨hu, rfl⟩ | ⟨hu, hr, rfl⟩ | ⟨b, A, k, c, hu, hr, rfl, ho⟩⟩
  · rw [hu]
    exact ⟨none, 0, 0, rfl, Own.nil_ _ _ _, hb⟩
  · obtain ⟨q, rfl, _, hq⟩ := inUse_nat hu
    rw [Int.toNat_natCast, hi.read hq] at hr
    cases hr
  · obtain ⟨q, rfl, _, hq⟩ := inUse_nat hu
    rw [Int.toNat_natCast, hi.read hq] at hr
    injection hr with hr
    subst hr
    rw [hu, Int.toNat_natCast]
    exact ⟨A, k, c, rfl, ho, hb⟩
/-- 'Open' of a disk that has a pager. -/
theorem Pd1.opened (x : Pd1 B w K a pm n dev N H ws) (hi : Inv N H ws m T C) (hB : B ≤ w.heap.size) (hn : n ≤ 800000000) (hon : pm.off = false) (ht : TabB B w) (hq : min ((N - 2) / 8) 384 = m.pages) :
    Calls Tryd.prog 12 #[.pointer (some ⟨a, 0, none⟩), .int .i64 (dev : Int)] w fun e w' => ∃ g', e = .returned (.tuple #[.pointer (some ⟨g', 0, none⟩), .int .i64 0]) ∧ Pg1 B w' (Grow K w w') a pm n dev N H ws g' m.drop ∧ Inv N H ws m.drop C C ∧ Below w.heap.size w w' := by
  obtain ⟨F, h, hF⟩ := x.inner
  have h1 := hi.n1
  have h2 := hi.fit
  refine (open_on h x.disk (by omega) hon (by omega) ht.tab (Nat.lt_of_lt_of_le ht.c hB)).mono ?_
  rw [hq, hi.opened]
  rintro e w' ⟨hb, ⟨h3, _⟩ | ⟨g', m', h3, rfl, hg, hp⟩⟩
  · cases h3
  · injection h3 with h3
    subst h3
    exact ⟨g', rfl, pg_made x hB hb hg hp hi.n384 hi.fit, hi.dropped, hb⟩
end
end Go.Proofs.YtookhagpgkefpaaDoor.Pag
/- A plant with one disk, formatted: where the pager's laws begin. -/
namespace Go.Proofs.YtookhagpgkefpaaDoor.Pag
open Go Go.RowKit Mem Pl Disk Crc _root_.Go.Proofs.YtookhagpgkefpaaDoor.Frame
theorem iat_row (w : World) (zs : List Int) (k : Nat) (hk : w.heap.size = k) (t : TypeId) : IAt (w.alloc (.cells (zs.map intV).toArray t)) (some ⟨k, 0, none⟩) zs := by
  subst hk
  refine .inr ⟨_, rfl, fun i z hz => ?_⟩
  have := (Blk.new w t (zs.map intV).toArray).cell i
  have e : (Addr.add ⟨w.heap.size, 0, none⟩ i) = ⟨w.heap.size, i, none⟩ := by
    unfold Addr.add
    split
    · rename_i h; subst h; rfl
    · simp
  rw [e, this]
  simp [hz, intV]
/-- A pager without pages in use. -/
def pgNew (q : Nat) : PgM := ⟨q, 1, -1, no48, no48⟩
def noT : Nat → List UInt8 := fun _ => []
theorem nxs_fresh (N : Nat) : nxs (virt (List.replicate N zeros) []) 2 = 1 := by
  have h : ∀ k, virt (List.replicate N zeros) [] k = zeros := fun k => by
    rw [virt_nil, List.getD_eq_getElem?_getD, List.getElem?_replicate]
    split <;> rfl
  show nx (nx 1 (virt (List.replicate N zeros) [] 0)) (virt (List.replicate N zeros) [] 1) = 1
  rw [h, h]
  unfold nx
  rw [okSup_zeros]
  rfl
theorem inv_fresh {N : Nat} (h10 : 10 ≤ N) : Inv N (setAll ([] ++ [(slotM 1, superM 1 0 no48)]) (List.replicate N zeros)) [] (pgNew (min ((N - 2) / 8) 384)) noT noT := by
  have hb : ∀ i, hasB no48 i = true → False := fun i hi => by rw [hasB_no48] at hi; cases hi
  have e : setAll ([] ++ [(slotM 1, superM 1 0 no48)]) (List.replicate N zeros) = (List.replicate N zeros).set 0 (superM 1 0 no48) := rfl
  rw [e]
  refine ⟨by show 1 ≤ min ((N - 2) / 8) 384; omega, by show min ((N - 2) / 8) 384 ≤ 384; omega, by show 2 + 8 * min ((N - 2) / 8) 384 ≤ N; omega, by simp, no48_len, no48_len, Nat.le_refl 1, by show 1 < 4000000000000000000; omega, ⟨0, rfl, ?_⟩, ?_, fun x hx => absurd hx (by simp), fun i hi => (hb i hi).elim, fun i hi => (hb i hi).elim, .inl rfl, fun i hi => (hb i hi).elim, fun i hi => (hb i hi).elim⟩
  · rw [show slotM (pgNew (min ((N - 2) / 8) 384)).gen = 0 by show slotM 1 = 0; decide]
    show IsSup (((List.replicate N zeros).set 0 (superM 1 0 no48)).getD 0 zeros) 1 0 no48
    rw [List.getD_eq_getElem?_getD, List.getElem?_set_self (by simp; omega)]
    exact isSup_superM no48_len (by omega) (by omega) (by omega)
  · rw [show 1 - slotM (pgNew (min ((N - 2) / 8) 384)).gen = 1 by show 1 - slotM 1 = 1; decide]
    rw [List.getD_eq_getElem?_getD, List.getElem?_set_ne (by omega), List.getElem?_replicate, if_pos (by omega)]
    intro h
    rw [show (some zeros).getD zeros = zeros from rfl, okSup_zeros] at h
    cases h
section
variable {B : Nat} {w w' : World} {K : Nat → Prop} {a : Nat} {pm : PM} {n dev N : Nat} {H : List (List UInt8)} {ws : Ws} {g : Nat} {m : PgM} {T C : Nat → List UInt8}
theorem Inv.nxs (h : Inv N H ws m T C) : nxs (virt H ws) 2 = m.gen + 1 := by
  obtain ⟨r1, hr1, hs⟩ := h.newer
  have hg := h.gen1
  have h1 : ∀ x, x ≤ m.gen + 1 → nx x (H.getD (slotM m.gen) zeros) = m.gen + 1 := fun x hx => by
    unfold nx
    rw [hs.ok, hs.gen]
    simp
    omega
  have h2 : ∀ x, 1 ≤ x → x ≤ m.gen + 1 → x ≤ nx x (H.getD (1 - slotM m.gen) zeros) ∧ nx x (H.getD (1 - slotM m.gen) zeros) ≤ max x m.gen := fun x _ hx => by
    unfold nx
    split
    · rename_i ho
      have := h.older ho
      omega
    · omega
  show nx (nx 1 (virt H ws 0)) (virt H ws 1) = _
  rw [h.heads (by omega), h.heads (by omega)]
  rcases Nat.lt_or_ge (slotM m.gen) 1 with h0 | h0
  · have e0 : slotM m.gen = 0 := by omega
    rw [e0] at h1 h2
    rw [h1 1 (by omega)]
    have := h2 (m.gen + 1) (by omega) (Nat.le_refl _)
    rw [show (1 : Nat) - 0 = 1 from rfl] at this
    omega
  · have e1 : slotM m.gen = 1 := by have := slot_lt m.gen; omega
    rw [e1] at h1 h2
    rw [show (1 : Nat) - 1 = 0 from rfl] at h2
    exact h1 _ (by have := h2 1 (by omega) (by omega); omega)
/-- 'Format' of a disk that has nothing. -/
theorem Pd1.formatNew (x : Pd1 B w K a pm n dev N (List.replicate N zeros) []) (hB : B ≤ w.heap.size) (hn : n ≤ 800000000) (hon : pm.off = false) (hf : pm.fuse = none) (ht : TabB B w) (h10 : 10 ≤ N) :
    Calls Tryd.prog 10 #[.pointer (some ⟨a, 0, none⟩), .int .i64 (dev : Int)] w fun e w' => ∃ pm' H', e = .returned (.int .i64 0) ∧ pm'.off = false ∧ pm'.fuse = none ∧ Pd1 B w' (Grow K w w') a pm' (n + 2) dev N H' [] ∧ Inv N H' [] (pgNew (min ((N - 2) / 8) 384)) noT noT ∧ Mods w.heap.size K w w' := by
  obtain ⟨F, h, hF⟩ := x.inner
  have hnx := nxs_fresh N
  refine (format_on h x.disk hB (by omega) hon h10 ht.tab (Nat.lt_of_lt_of_le ht.c hB) (by rw [hnx]; omega)).mono ?_
  rw [hnx]
  rintro e w' ⟨F', pm', h1, h2, h3, ⟨rfl, h4, h5, h6⟩ | ⟨rfl, h4, _⟩⟩
  · obtain ⟨h7, h8⟩ := pd_frame x hF hB h1 h2 h3 h4
    exact ⟨pm', _, rfl, h5, h6 hf, h7, inv_fresh h10, h8⟩
  · exact absurd hf h4
/-- 'Format' of a disk that has a pager. -/
theorem Pd1.format (x : Pd1 B w K a pm n dev N H []) (hi : Inv N H [] m T C) (hB : B ≤ w.heap.size) (hn : n ≤ 800000000) (hon : pm.off = false) (ht : TabB B w) (hgen : m.gen < 3000000000000000000) :
    Calls Tryd.prog 10 #[.pointer (some ⟨a, 0, none⟩), .int .i64 (dev : Int)] w fun e w' => ∃ pm' H' ws', Mods w.heap.size K w w' ∧ Pd1 B w' (Grow K w w') a pm' (n + 2) dev N H' ws' ∧
      ((e = .returned (.int .i64 0) ∧ pm'.off = false ∧ ws' = [] ∧ Inv N H' [] { m with gen := m.gen + 1, root := -1, use := no48, was := no48 } T T) ∨
       (e = .returned (.int .i64 2) ∧ pm'.off = true ∧ ∀ vs : Ws, vs.Sublist ws' → Inv N (setAll vs H') [] m.drop C C ∨ Inv N (setAll vs H') [] { m with gen := m.gen + 1, root := -1, use := no48, was := no48 } T T)) := by
  obtain ⟨F, h, hF⟩ := x.inner
  have h1 := hi.n1
  have h2 := hi.fit
  have hnx := hi.nxs
  have hc := (hi.none_).committed (root := -1) (.inl rfl) hgen
  refine (format_on h x.disk hB (by omega) hon (by omega) ht.tab (Nat.lt_of_lt_of_le ht.c hB) (by rw [hnx]; omega)).mono ?_
  rw [hnx]
  rintro e w' ⟨F', pm', h1, h2, h3, ⟨rfl, h4, h5, h6⟩ | ⟨rfl, h4, h5, h6 | h6⟩⟩
  · obtain ⟨h7, h8⟩ := pd_frame x hF hB h1 h2 h3 h4
    exact ⟨pm', _, _, h8, h7, .inl ⟨rfl, h5, rfl, hc⟩⟩
  · obtain ⟨h7, h8⟩ := pd_frame x hF hB h1 h2 h3 h6
    exact ⟨pm', _, _, h8, h7, .inr ⟨rfl, h5, fun vs hv => .inl (hi.sub hv)⟩⟩
  · obtain ⟨h7, h8⟩ := pd_frame x hF hB h1 h2 h3 h6
    refine ⟨pm', _, _, h8, h7, .inr ⟨rfl, h5, fun vs hv => ?_⟩⟩
    cases vs with
    | nil => exact .inl (hi.sub (List.nil_sublist _))
    | cons v vs =>
      have : v :: vs = [] ++ [(slotM (m.gen + 1), superM (m.gen + 1) 0 no48)] := hv.eq_of_length_le (by simp)
      rw [this]
      exact .inr hc
/-- 'Boot'. -/
theorem Pd1.boot (x : Pd1 B w K a pm n dev N H ws) (hB : B ≤ w.heap.size) (hn : n ≤ 800000000) (AK : Option Addr) (nk ck : Nat) (keep : List Int) (hk : IAt w AK keep) (hkl : keep.length = nk) (hkn : keep ≠ [] → ∀ ad, AK = some ad → ¬ K ad.block) (hnk : nk ≤ 9223372036854775807) :
    Calls Tryd.prog 27 #[.pointer (some ⟨a, 0, none⟩), .slice AK nk ck] w fun e w' => ∃ pm' vs, e = .returned (.tuple #[]) ∧ pm'.off = false ∧ pm'.fuse = none ∧ vs.Sublist ws ∧ Pd1 B w' (Grow K w w') a pm' (n + 1) dev N (setAll vs H) [] ∧ Mods w.heap.size K w w' := by
  obtain ⟨F, h, hF⟩ := x.inner
  refine (h.boot hB (by omega) AK nk ck keep hk hkl (fun hne ad e hf => hkn hne ad e (hF _ hf)) hnk).mono ?_
  rintro e w' ⟨rfl, hst, hm⟩
  obtain ⟨vs, hd, hv⟩ := x.disk.boot keep
  obtain ⟨h7, h8⟩ := pd_frame x hF hB grow_new hm hst hd
  exact ⟨_, vs, rfl, rfl, rfl, hv, h7, h8⟩
/-- 'Fuse'. -/
theorem Pg1.setFuse (x : Pg1 B w K a pm n dev N H ws g m) (hB : B ≤ w.heap.size) (z : Int) (hz : z < 9223372036854775808) :
    Calls Tryd.prog 26 #[.pointer (some ⟨a, 0, none⟩), .int .i64 z] w fun e w' => e = .returned (.tuple #[]) ∧ Pg1 B w' (Grow K w w') a (pm.setFuse z) (n + 1) dev N H ws g m ∧ (pm.setFuse z).off = pm.off ∧ Mods w.heap.size K w w' := by
  obtain ⟨F, h, hF⟩ := x.inner
  refine (h.st.setFuse hB z hz).mono ?_
  rintro e w' ⟨rfl, hst, hm⟩
  have hlt := h.pg.lt
  obtain ⟨hd, ho⟩ := h.disk.fuse z
  have h6 : PgSt B w' (Grow F w w') a (pm.setFuse z) (n + 1) dev N H ws g m := ⟨hst, hd, h.pg.mods hm hlt h.apart, h.lt, fun hg => by
    rcases hg with hg | hg
    · exact h.apart hg
    · omega, h.n384, h.fit⟩
  obtain ⟨h7, h8⟩ := pg_frame x hF hB grow_new (hm.mono (Nat.le_refl _) fun k _ h => .inl h) h6
  exact ⟨rfl, h7, ho, h8⟩
end
/-- The plant that is made. -/
def pagPM (n : Nat) : PM := { disks := [n], tapes := [], devs := newDevs [n] [], waits := [], off := false, fuse := none, steps := 0, now := 0 }
theorem pagPM_new {n : Nat} (h1 : 1 ≤ n) (h2 : n ≤ 4096) : newM [(n : Int)] [] = some (pagPM n) := by
  unfold newM pagPM
  have a1 : ¬ ((n : Int) < 1) := by omega
  have a2 : ¬ (4096 < (n : Int)) := by omega
  simp [a1, a2]
theorem pagPM_disk (n : Nat) : Disk (pagPM n) 0 n (List.replicate n zeros) [] := by
  refine ⟨?_, rfl⟩
  have := newDevs_get (zs1 := [(n : Int)]) (zs2 := []) (k := 0) (z := (n : Int)) rfl
  simpa [pagPM, devOf] using this
/-- The plant of one disk, made. -/
theorem made_one {B : Nat} {w w1 : World} (n : Nat) (h1 : 1 ≤ n) (h2 : n ≤ 4096) (hB : B ≤ w.heap.size) (hw : w1 = w.alloc (.cells #[.int .i64 (n : Int)] 3)) :
    Calls Tryd.prog 9 #[.agg #[.slice (some ⟨w.heap.size, 0, none⟩) 1 1, .slice none 0 0]] w1 fun e w' => ∃ a, e = .returned (.tuple #[.pointer (some ⟨a, 0, none⟩), .int .i64 0]) ∧ Pd1 B w' (New w w') a (pagPM n) 0 0 n (List.replicate n zeros) [] ∧ Below w.heap.size w w' := by
  subst hw
  have hn := new_any (w.alloc (.cells #[.int .i64 (n : Int)] 3)) (some ⟨w.heap.size, 0, none⟩) none 1 0 1 0 [(n : Int)] [] (iat_row w [(n : Int)] _ rfl _) (.inl rfl) rfl rfl (by omega) (by omega)
  rw [pagPM_new h1 h2] at hn
  refine hn.mono ?_
  rintro e w' ⟨hb, ⟨h, _⟩ | ⟨a, p, h, rfl, hp⟩⟩
  · cases h
  injection h with h
  subst h
  have hb1 := below_al' (w := w) (.cells #[.int .i64 (n : Int)] 3)
  have hbb := hb1.trans (hb.mono hb1.size)
  have hst : St B w' (New (w.alloc (.cells #[.int .i64 (n : Int)] 3)) w') a (pagPM n) 0 := St.new hp (Nat.le_trans hB hb1.size) (pagPM_new h1 h2)
  exact ⟨a, rfl, ⟨⟨_, hst, fun k hk => ⟨Nat.le_trans hb1.size hk.1, hk.2⟩⟩, pagPM_disk n, fun k hk => ⟨Nat.le_trans hB hk.1, hk.2⟩⟩, hbb⟩
end Go.Proofs.YtookhagpgkefpaaDoor.Pag
