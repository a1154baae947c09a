/- Layer 15 (coldvol): the blocks of an object; rows of blocks in memory. -/
import Derived.Test.YtloffgoenaomkaaDoorCol8
import Derived.Test.YtloffgoenaomkaaDoorOrdFork
import Derived.Test.YtloffgoenaomkaaDoorFold2
import Derived.Deep.MidRow
import Derived.Deep.CutRange
import Derived.Deep.CutBlock
namespace Go.Proofs.YtloffgoenaomkaaDoor.Col
open Go Go.RowKit Mem Pl Disk Crc _root_.Go.Proofs.YtloffgoenaomkaaDoor.Frame Hash
theorem rowsTy : ElTy Tryd.prog 22 38 1 24 (.slice none 0 0) := ⟨Tryd.underlying22, by kernel_rfl, by kernel_rfl, by decide⟩
theorem pc0_one : ∀ u ∈ [Value.int .i64 0, .int .i64 0, .int .i64 0, .bool false], u.oneCell' = true := fun u hu => by
  simp at hu
  rcases hu with rfl | rfl <;> rfl
theorem pc1_one (a b c : Int) : ∀ u ∈ [Value.int .i64 a, .int .i64 b, .int .i64 c, .bool false], u.oneCell' = true := fun u hu => by
  simp at hu
  rcases hu with rfl | rfl | rfl | rfl <;> rfl
theorem load_pc {w : World} {g : Nat} {a b c : Int} {d : Bool} (h : Blk w g 35 [Value.int .i64 a, .int .i64 b, .int .i64 c, .bool d].toArray) :
    (loadVar 35 ⟨g, 0, none⟩).run Tryd.prog w = .ok (.agg #[.int .i64 a, .int .i64 b, .int .i64 c, .bool d]) w :=
  run_loadVar_mid (P := Tryd.prog) w g 0 35 [.int .i64 a, .int .i64 b, .int .i64 c, .bool d] _ (fun j v hv => by rw [Nat.zero_add, h.cell]; simpa using hv) Tryd.underlying35 rfl (by kernel_rfl)
theorem fit_below {w wr w2 : World} (hb : Below w.heap.size w wr) (hg : wr.grownBy w2 (some w.heap.size)) (_ : w2.heap.size = wr.heap.size) : Below w.heap.size w w2 :=
  hb.grown hg hb.size (fun k hk => by injection hk with hk; omega)
/-- An object's head, its data blocks, all its blocks. -/
def headM (m : Nat) (id : List UInt8) : List UInt8 := [UInt8.ofNat id.length] ++ beB m 2 ++ id
def chunkB (b : List UInt8) (i : Nat) : List UInt8 := (b.drop (56 * i)).take 56
def frontM (at_ : Nat) (id b : List UInt8) (k : Nat) : List (List UInt8) := blkM (tagM 1 0 at_) (headM b.length id) :: (List.range k).map fun i => blkM (tagM 2 (i + 1) at_) (chunkB b i)
def putM (at_ : Nat) (id b : List UInt8) : List (List UInt8) := frontM at_ id b (dataN b.length) ++ [blkM (tagM 3 (dataN b.length + 1) at_) []]
theorem frontM_len (at_ : Nat) (id b : List UInt8) (k : Nat) : (frontM at_ id b k).length = k + 1 := by simp [frontM]
theorem putM_len (at_ : Nat) (id b : List UInt8) : (putM at_ id b).length = 2 + dataN b.length := by
  unfold putM
  rw [List.length_append, frontM_len]
  simp
  omega
theorem frontM_succ (at_ : Nat) (id b : List UInt8) (k : Nat) : frontM at_ id b (k + 1) = frontM at_ id b k ++ [blkM (tagM 2 (k + 1) at_) (chunkB b k)] := by
  unfold frontM
  rw [List.range_succ, List.map_append]
  rfl
theorem chunkB_len (b : List UInt8) (i : Nat) : (chunkB b i).length ≤ 56 := by
  unfold chunkB
  rw [List.length_take]
  omega
theorem name_len {id : List UInt8} (h : Rec.nameM id = true) : 1 ≤ id.length ∧ id.length ≤ 16 := by
  unfold Rec.nameM at h
  simp at h
  exact h.1
theorem headM_len {m : Nat} {id : List UInt8} : (headM m id).length = 3 + id.length := by
  unfold headM
  simp [beB_length]
  omega
theorem putM_64 {at_ : Nat} {id b : List UInt8} (h : id.length ≤ 16) : ∀ c ∈ putM at_ id b, c.length = 64 := by
  intro c hc
  unfold putM frontM at hc
  simp only [List.cons_append, List.mem_cons, List.mem_append, List.mem_map, List.mem_range, List.not_mem_nil, or_false] at hc
  rcases hc with rfl | ⟨i, _, rfl⟩ | rfl
  · exact blkM_len rfl (by rw [headM_len]; omega)
  · exact blkM_len rfl (chunkB_len b i)
  · exact blkM_len rfl (by decide)
/-- Rows of 64 bytes, each in a block of its own. -/
def RowB (w : World) (base : Nat) (Bs : List (List UInt8)) (vs : List Value) : Prop :=
  vs.length = Bs.length ∧ ∀ (i : Nat) (c : List UInt8), Bs[i]? = some c → ∃ g, vs[i]? = some (.slice (some ⟨g, 0, none⟩) 64 64) ∧ base ≤ g ∧ Blk w g 5 (cellsOf c)
def Rows (w : World) (vb base : Nat) (Bs : List (List UInt8)) (v : Value) : Prop := ∃ vs, Vec w (fun g => vb ≤ g) 38 1 v Bs.length vs ∧ RowB w base Bs vs
section
variable {w w' : World} {vb base : Nat} {Bs : List (List UInt8)} {v : Value}
theorem RowB.below {vs : List Value} (h : RowB w base Bs vs) (hb : Below w.heap.size w w') : RowB w' base Bs vs :=
  ⟨h.1, fun i c hc => by obtain ⟨g, h1, h2, h3⟩ := h.2 i c hc; exact ⟨g, h1, h2, h3.below_ hb⟩⟩
theorem Rows.below (h : Rows w vb base Bs v) (hb : Below w.heap.size w w') : Rows w' vb base Bs v := by
  obtain ⟨vs, h1, h2⟩ := h
  exact ⟨vs, h1.below hb, h2.below hb⟩
theorem RowB.snoc {vs : List Value} {row : Option Nat} {g : Nat} {c : List UInt8} (h : RowB w base Bs vs) (hw : w.grownBy w' row) (hrow : row = none ∨ ∃ g cs, row = some g ∧ vb ≤ g ∧ w.heap[g]? = some (.cells cs 38 (0, 0)))
    (hg : base ≤ g) (hk : Blk w g 5 (cellsOf c)) : RowB w' base (Bs ++ [c]) (vs ++ [.slice (some ⟨g, 0, none⟩) 64 64]) := by
  have hne : ∀ (g : Nat) (cs : Array Value), Blk w g 5 cs → Blk w' g 5 cs := fun g cs hb => by
    refine hb.grown hw fun e => ?_
    rcases hrow with h0 | ⟨g', cs', h0, _, h1⟩
    · rw [h0] at e; cases e
    · rw [h0] at e
      injection e with e
      subst e
      have h2 : w.heap[g]? = some (.cells cs 5 (0, 0)) := hb
      rw [h1] at h2
      injection h2 with h2
      injection h2 with _ h2
      exact absurd h2 (by decide)
  refine ⟨by simp [h.1], fun i c' hc => ?_⟩
  rcases Nat.lt_trichotomy i Bs.length with hi | hi | hi
  · rw [List.getElem?_append_left hi] at hc
    obtain ⟨g', h1, h2, h3⟩ := h.2 i c' hc
    exact ⟨g', by rw [List.getElem?_append_left (by rw [h.1]; exact hi)]; exact h1, h2, hne _ _ h3⟩
  · subst hi
    rw [List.getElem?_append_right (Nat.le_refl _)] at hc
    simp at hc
    subst hc
    exact ⟨g, by rw [List.getElem?_append_right (by rw [h.1]; exact Nat.le_refl _), h.1]; simp, hg, hne _ _ hk⟩
  · rw [List.getElem?_eq_none (by simp; omega)] at hc
    cases hc
theorem Rows.len (h : Rows w vb base Bs v) : ∃ A cap, v = .slice A Bs.length cap := by
  obtain ⟨vs, h1, _⟩ := h
  exact h1.shape
end
/-- May these bytes be appended? -/
def mayM (N : Nat) (T : List (List UInt8)) (id b : List UInt8) : Nat := if Rec.nameM id = false then 1 else if 512 < b.length then 5 else if roomM N T < 2 + dataN b.length then 3 else 0
/-- What 'Append' leaves. -/
def AppP (B : Nat) (w : World) (F : Nat → Prop) (a : Nat) (pm : PM) (n v dev N : Nat) (H ws : List (List UInt8)) (id b : List UInt8) (e : Ending) (w' : World) : Prop :=
  (∃ err, mayM N (H ++ ws) id b = err ∧ err ≠ 0 ∧ e = .returned (.tuple #[placeV 0 0 0 false, .int .i64 (err : Int)]) ∧ Below w.heap.size w w') ∨
  (mayM N (H ++ ws) id b = 0 ∧ ∃ (F' : Nat → Prop) (pm' : PM), Frm B w F a pm (n + 12) dev F' pm' w' ∧
    ((e = .returned (.tuple #[placeV dev ((H.length + ws.length : Nat) : Int) ((2 + dataN b.length : Nat) : Int) false, .int .i64 0]) ∧ VS B w' F' a pm' (n + 12) v dev N H (ws ++ putM (H.length + ws.length) id b)) ∨
     (∃ k, k < 2 + dataN b.length ∧ e = .returned (.tuple #[placeV 0 0 0 false, .int .i64 2]) ∧ TapeP pm' dev N H (ws ++ (putM (H.length + ws.length) id b).take k) ∧ pm.fuse ≠ none ∧ pm'.off = true)))
end Go.Proofs.YtloffgoenaomkaaDoor.Col
