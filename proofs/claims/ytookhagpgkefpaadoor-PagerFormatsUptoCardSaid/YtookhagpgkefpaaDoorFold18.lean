/- Pages put one behind the other: what each is. No program. -/
import Derived.Test.YtookhagpgkefpaaDoorFold16
namespace Go.Proofs.YtookhagpgkefpaaDoor.Pag
open Go Go.RowKit Mem Pl Disk Crc _root_.Go.Proofs.YtookhagpgkefpaaDoor.Frame
/-- How many of the first k rows fit into a page. -/
def fitN (l : List (List UInt8)) (k : Nat) : Nat := (l.take k).countP fun b => decide (b.length ≤ 500)
theorem fitN_next {l : List (List UInt8)} {k : Nat} {b : List UInt8} (h : l[k]? = some b) : fitN l (k + 1) = fitN l k + if b.length ≤ 500 then 1 else 0 := by
  obtain ⟨hk, e⟩ := List.getElem?_eq_some_iff.1 h
  unfold fitN
  rw [List.take_succ_eq_append_getElem hk, e, List.countP_append, List.countP_singleton]
  simp
theorem fitN_le (l : List (List UInt8)) (k : Nat) : fitN l k ≤ k := by
  have := List.countP_le_length (p := fun b : List UInt8 => decide (b.length ≤ 500)) (l := l.take k)
  rw [List.length_take] at this
  unfold fitN
  omega
/-- What 'Put' of row j answered, or -1. -/
def atOf (l : List (List UInt8)) (j : Nat) : Int := if (l.getD j []).length ≤ 500 then (fitN l j : Int) else -1
def atsOf (l : List (List UInt8)) (k : Nat) : List Int := (List.range k).map (atOf l)
theorem atsOf_len (l : List (List UInt8)) (k : Nat) : (atsOf l k).length = k := by simp [atsOf]
theorem atsOf_next (l : List (List UInt8)) (k : Nat) : atsOf l k ++ [atOf l k] = atsOf l (k + 1) := by unfold atsOf; rw [List.range_succ]; simp
theorem atsOf_get (l : List (List UInt8)) {k j : Nat} (h : j < k) : (atsOf l k)[j]? = some (atOf l j) := by unfold atsOf; simp [h]
/-- Just the first c pages are in use, none was committed. -/
structure FirstC (m : PgM) (c : Nat) : Prop where
  use : ∀ p, hasB m.use p = decide (p < c)
  was : ∀ p, hasB m.was p = true → p < c
theorem FirstC.ffree_ {m : PgM} {c : Nat} (h : FirstC m c) (hc : c < m.pages) : ffree m = some c := by
  refine ffree_some hc ((free_iff m c).2 ⟨by rw [h.use]; simp, ?_⟩) fun k hk => ?_
  · cases hw : hasB m.was c with
    | false => rfl
    | true => have := h.was c hw; omega
  · unfold PgM.free
    rw [h.use]
    simp [hk]
theorem FirstC.put {m : PgM} {c : Nat} (h : FirstC m c) (hc : c < m.pages) (hul : m.use.length = 48) (h384 : m.pages ≤ 384) {T : Nat → List UInt8} {b : List UInt8} (hb : b.length ≤ 500) :
    putM m T b = ({ m with use := setB m.use c true }, fun q => if q = c then b else T q, (c : Int), (0 : Int)) ∧ FirstC { m with use := setB m.use c true } (c + 1) := by
  refine ⟨?_, ⟨fun p => ?_, fun p hp => Nat.lt_succ_of_lt (h.was p hp)⟩⟩
  · unfold putM
    rw [if_neg (by omega), h.ffree_ hc]
  · show hasB (setB m.use c true) p = _
    rw [setB_has (by omega), h.use]
    by_cases he : p = c
    · simp [he]
    · simp only [he, if_false]
      congr 1
      exact propext ⟨fun h => by omega, fun h => by omega⟩
theorem putM_long {m : PgM} {T : Nat → List UInt8} {b : List UInt8} (hb : 500 < b.length) : putM m T b = (m, T, (0 : Int), (5 : Int)) := by
  unfold putM
  rw [if_pos hb]
/-- The texts of the pages. -/
def TextsOf (l : List (List UInt8)) (k : Nat) (T : Nat → List UInt8) : Prop := ∀ j b, j < k → l[j]? = some b → b.length ≤ 500 → T (fitN l j) = b
theorem fitN_mono {l : List (List UInt8)} {i j : Nat} (h : i ≤ j) : fitN l i ≤ fitN l j := by
  unfold fitN
  have : (l.take i).Sublist (l.take j) := by
    rw [show i = min i j by omega, ← List.take_take]
    exact List.take_sublist _ _
  exact this.countP_le
theorem fitN_lt {l : List (List UInt8)} {i j : Nat} {b : List UInt8} (h : i < j) (hi : l[i]? = some b) (hb : b.length ≤ 500) : fitN l i < fitN l j := by
  have h1 := fitN_next hi
  rw [if_pos hb] at h1
  have := fitN_mono (l := l) (show i + 1 ≤ j from h)
  omega
theorem TextsOf.put {l : List (List UInt8)} {k : Nat} {T : Nat → List UInt8} (h : TextsOf l k T) {b : List UInt8} (hb : l[k]? = some b) : TextsOf l (k + 1) fun q => if q = fitN l k then b else T q := fun j b' hj hl h5 => by
  rcases Nat.lt_or_ge j k with hlt | hge
  · have := fitN_lt hlt hl h5
    simp only
    rw [if_neg (by omega)]
    exact h j b' hlt hl h5
  · obtain rfl : j = k := by omega
    rw [hb] at hl
    injection hl with hl
    subst hl
    simp
theorem TextsOf.skip {l : List (List UInt8)} {k : Nat} {T : Nat → List UInt8} (h : TextsOf l k T) {b : List UInt8} (hb : l[k]? = some b) (h5 : 500 < b.length) : TextsOf l (k + 1) T := fun j b' hj hl h5' => by
  rcases Nat.lt_or_ge j k with hlt | hge
  · exact h j b' hlt hl h5'
  · obtain rfl : j = k := by omega
    rw [hb] at hl
    injection hl with hl
    subst hl
    omega
/-- A row of rows of bytes. -/
def RowsAt (W : World) (A : Option Addr) (l : List (List UInt8)) : Prop := ∀ i b, l[i]? = some b → ∃ ad B c, A = some ad ∧ W.cell? (ad.add i) = some (.slice B b.length c) ∧ BAt W B b
theorem RowsAt.below {W w : World} {A : Option Addr} {l : List (List UInt8)} (h : RowsAt W A l) (hb : Below W.heap.size W w) : RowsAt w A l := fun i b hi => by
  obtain ⟨ad, B, c, hA, hc, hbt⟩ := h i b hi
  exact ⟨ad, B, c, hA, (hb.cell (cell_lt hc)).trans hc, hbt.below hb⟩
/-- A row of numbers that is the law's own, apart from a pager. -/
def Ints (B : Nat) (w : World) (K : Nat → Prop) (V : Value) (zs : List Int) : Prop := Vec w (fun g => B ≤ g ∧ ¬ K g) 3 1 V zs.length (zs.map intV)
section
variable {B : Nat} {w w' : World} {K : Nat → Prop} {V : Value} {zs : List Int}
theorem Ints.mods (h : Ints B w K V zs) (hm : Mods w.heap.size K w w') : Ints B w' (Grow K w w') V zs := by
  have h1 : Vec w (fun g => B ≤ g ∧ ¬ Grow K w w' g) 3 1 V zs.length (zs.map intV) := Vec.mono h fun g hg hf => ⟨hf.1, fun hk => hk.elim hf.2 fun h => by omega⟩
  exact h1.mods hm fun g hg hf => ⟨hg, fun hk => hf.2 (.inl hk)⟩
theorem Ints.below (h : Ints B w K V zs) (hb : Below w.heap.size w w') : Ints B w' K V zs := Vec.below h hb
theorem Ints.nil_ (B : Nat) (w : World) (K : Nat → Prop) (A : Option Addr) : Ints B w K (.slice A 0 0) [] := Vec.nil_ _ _ _ _ _
theorem Ints.cell (h : Ints B w K V zs) {j : Nat} {z : Int} (hj : zs[j]? = some z) : ∃ g c, V = .slice (some ⟨g, 0, none⟩) zs.length c ∧ w.cell? ⟨g, j, none⟩ = some (.int .i64 z) := by
  obtain ⟨A, c, rfl⟩ := Vec.shape h
  obtain ⟨g, rfl, hc⟩ := Vec.cell h j (intV z) (by rw [List.getElem?_map, hj]; rfl)
  exact ⟨g, c, rfl, hc⟩
theorem Ints.cell2 {A : Option Addr} {n c : Nat} (h : Ints B w K (.slice A n c) zs) {j : Nat} {z : Int} (hj : zs[j]? = some z) : ∃ g, A = some ⟨g, 0, none⟩ ∧ w.cell? ⟨g, j, none⟩ = some (.int .i64 z) := by
  obtain ⟨g, c', he, hc⟩ := h.cell hj
  injection he with h1 _ _
  exact ⟨g, h1, hc⟩
theorem Ints.shape (h : Ints B w K V zs) : ∃ A c, V = .slice A zs.length c := Vec.shape h
end
theorem intTy : ElTy Tryd.prog 28 3 1 8 (.int .i64 0) := ⟨Tryd.underlying28, by kernel_rfl, by kernel_rfl, by decide⟩
end Go.Proofs.YtookhagpgkefpaaDoor.Pag
/- Pages put and committed one by one; a pager behind a Format. -/
namespace Go.Proofs.YtookhagpgkefpaaDoor.Pag
open Go Go.RowKit Mem Pl Disk Crc _root_.Go.Proofs.YtookhagpgkefpaaDoor.Frame
section
variable {B : Nat} {w w' : World} {K : Nat → Prop} {a : Nat} {pm : PM} {n dev N : Nat} {H : List (List UInt8)} {ws : Ws} {g : Nat} {m : PgM} {T C : Nat → List UInt8}
/-- 'Commit' with the power on and no fuse. -/
theorem Pg1.commitN (x : Pg1 B w K a pm n dev N H ws g m) (hi : Inv N H ws m T C) (hB : B ≤ w.heap.size) (hn : n ≤ 800000000) (hon : pm.off = false) (hf : pm.fuse = none) (ht : TabB B w) (hgen : m.gen < 3000000000000000000) (root : Int) (hr : m.rootMay root = true) :
    Calls Tryd.prog 18 #[.pointer (some ⟨g, 0, none⟩), .int .i64 root] w fun e w' => e = .returned (.int .i64 0) ∧ ∃ pm' H', Mods w.heap.size K w w' ∧ pm'.off = false ∧ pm'.fuse = none ∧ Pg1 B w' (Grow K w w') a pm' (n + 3) dev N H' [] g (m.commit root) ∧ Inv N H' [] (m.commit root) T T := by
  obtain ⟨F, h, hF⟩ := x.inner
  refine (commit_any h hB hn hon ht.tab ht.c (by omega) root).mono ?_
  rintro e w' (⟨h0, rfl, rfl⟩ | ⟨_, F', pm', h1, h2, ⟨rfl, h3, h4, h6⟩ | ⟨rfl, h3, h4, h6⟩⟩)
  · rw [hr] at h0; cases h0
  · obtain ⟨h7, h8⟩ := pg_frame x hF hB h1 h2 h6
    exact ⟨rfl, pm', _, h8, h3, h4 hf, h7, hi.committed (rootMay_iff hr) hgen⟩
  · exact absurd hf h4
/-- 'Put' with the power on and no fuse. -/
theorem Pg1.putN (x : Pg1 B w K a pm n dev N H ws g m) (hi : Inv N H ws m T C) (hB : B ≤ w.heap.size) (hn : n ≤ 800000000) (hon : pm.off = false) (hf : pm.fuse = none) (ht : TabB B w) (A : Option Addr) (L cap : Nat) (bs : List UInt8) (hb : BAt w A bs) (hl : bs.length = L) (hLm : L ≤ 9223372036854775807) :
    Calls Tryd.prog 14 #[.pointer (some ⟨g, 0, none⟩), .slice A L cap] w fun e w' => e = .returned (.tuple #[.int .i64 (putM m T bs).2.2.1, .int .i64 (putM m T bs).2.2.2]) ∧ ∃ pm' ws', Mods w.heap.size K w w' ∧ pm'.off = false ∧ pm'.fuse = none ∧ Pg1 B w' (Grow K w w') a pm' (n + 8) dev N H ws' g (putM m T bs).1 ∧ Inv N H ws' (putM m T bs).1 (putM m T bs).2.1 C := by
  refine (x.put hi hB hn hon ht A L cap bs hb hl hLm).mono ?_
  rintro e w' ⟨pm', ws', hm, ⟨rfl, h1, h2, h3, h4⟩ | ⟨_, _, h, _⟩⟩
  · exact ⟨rfl, pm', ws', hm, h1, h2 hf, h3, h4⟩
  · exact absurd hf h
end
/-- What is so when just the first c pages are in use and committed. -/
theorem room_first {m : PgM} {c : Nat} (h : ∀ p, m.free p = decide (c ≤ p)) : ∀ n, m.room n = n - c
  | 0 => by unfold PgM.room; simp
  | n + 1 => by
    rw [room_next, room_first h n, h]
    by_cases hc : c ≤ n
    · simp [hc]; omega
    · simp [hc]; omega
theorem free_use {m : PgM} {c : Nat} (hu : ∀ p, hasB m.use p = decide (p < c)) (hw : ∀ p, hasB m.was p = decide (p < c)) (p : Nat) : m.free p = decide (c ≤ p) := by
  unfold PgM.free
  rw [hu, hw]
  by_cases h : c ≤ p
  · simp [h]
  · simp [h]; omega
/-- The pager behind a Format. -/
def fmtM (m : PgM) : PgM := { m with gen := m.gen + 1, root := -1, use := no48, was := no48 }
theorem fmtM_room (m : PgM) : (fmtM m).drop.room (fmtM m).drop.pages = m.pages := by
  have h : ∀ p, (fmtM m).drop.free p = decide (0 ≤ p) := fun p => by
    unfold PgM.free
    rw [show (fmtM m).drop.use = no48 from rfl, show (fmtM m).drop.was = no48 from rfl, hasB_no48]
    simp
  rw [room_first h]
  rfl
end Go.Proofs.YtookhagpgkefpaaDoor.Pag
