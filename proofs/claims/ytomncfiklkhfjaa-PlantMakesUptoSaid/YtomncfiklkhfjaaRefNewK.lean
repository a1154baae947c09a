/- The states of the reference's 'New'. -/
import Derived.Test.YtomncfiklkhfjaaRefMem
namespace Go.Proofs.Ytomncfiklkhfjaa.Ref
open Go Go.RowKit Mem Pl
theorem own_row_ty {w : World} {base : Nat} {e : TypeId} {size : Nat} {A : Option Addr} {n c : Nat} {xs : List Value} (h : OwnG w base e size A n c xs) :
    (Value.slice A n c).ownBlock = none ∨ ∃ g cs, (Value.slice A n c).ownBlock = some g ∧ w.heap[g]? = some (Obj.cells cs e (0, 0)) := by
  obtain ⟨_, h2⟩ := h
  rcases h2 with ⟨h0, _⟩ | ⟨g', cap', cur, hv, hg, hh, _⟩
  · injection h0 with h0
    subst h0
    exact .inl rfl
  · injection hv with hv
    subst hv
    exact .inr ⟨g', cur, rfl, hh⟩
theorem iat_of_vec {w : World} {F : Nat → Prop} {A : Option Addr} {n c : Nat} {zs : List Int} (h : Vec w F 3 1 (.slice A n c) n (zs.map intV)) : IAt w A zs := by
  by_cases h0 : zs = []
  · exact .inl h0
  · have hp : 0 < zs.length := List.length_pos_iff.2 h0
    obtain ⟨g, hA, _⟩ := h.cell 0 (.int .i64 zs[0]) (by rw [List.getElem?_map, List.getElem?_eq_getElem hp]; rfl)
    subst hA
    refine .inr ⟨_, rfl, fun k z hz => ?_⟩
    have := h.at_ (k := k) (u := .int .i64 z) (by rw [List.getElem?_map, hz]; rfl)
    have e : (Addr.add ⟨g, 0, none⟩ k) = ⟨g, k, none⟩ := by
      unfold Addr.add
      split
      · rename_i h; subst h; rfl
      · simp
    rw [e]
    exact this
/-- What the devices have. -/
def TG (zs1 zs2 : List Int) : List (List (List UInt8)) := (newDevs (zs1.map Int.toNat) (zs2.map Int.toNat)).map (·.has)
theorem TG_len (zs1 zs2 : List Int) : (TG zs1 zs2).length = zs1.length + zs2.length := by simp [TG, newDevs_len]
theorem TG_get {zs1 zs2 : List Int} {k : Nat} {z : Int} (h : (zs1 ++ zs2)[k]? = some z) : (TG zs1 zs2)[k]? = some (List.replicate (if k < zs1.length then z.toNat else 0) zeros) := by
  unfold TG
  rw [List.getElem?_map, newDevs_get h]
  unfold devOf
  by_cases hk : k < zs1.length <;> simp [hk]
def L1 (wc : World) (zs : List Int) (n : Nat) (iv : Value) (wr : World) : Prop := ∃ i k : Nat, i ≤ n ∧ iv = .int .i64 (i : Int) ∧ (∀ z ∈ zs.take i, okN z) ∧ wr = wc.drewN k
def L2 (w : World) (r : Nat) (D T : Value) (sh : Array Value) (zs1 zs2 : List Int) (n : Nat) (iv : Value) (wr : World) : Prop :=
  ∃ (i : Nat) (V : Value), i ≤ n ∧ iv = .int .i64 (i : Int) ∧ Below w.heap.size w wr ∧ Blk wr r 78 #[D, T, V, .slice none 0 0, .bool false, .bool false, .int .i64 0, .int .i64 0, .int .i64 0] ∧
    Vec wr (New w wr) 3 1 D zs1.length (zs1.map intV) ∧ Vec wr (New w wr) 3 1 T zs2.length (zs2.map intV) ∧ Blk wr w.heap.size 44 sh ∧ HasAt wr (New w wr) V ((TG zs1 zs2).take i)
/-- A device's sectors, one by one. -/
def L3 (wr : World) (m : Nat) (lv kv : Value) (w3 : World) : Prop :=
  ∃ (k : Nat) (L : Option Addr) (c : Nat) (vs : List Value), k ≤ m ∧ kv = .int .i64 (k : Int) ∧ lv = .slice L k c ∧ Below wr.heap.size wr w3 ∧ OwnG w3 wr.heap.size 28 1 L k c vs ∧ ∀ j : Nat, j < k → ∃ v, vs[j]? = some v ∧ SecOk w3 zeros v
theorem SecOk.new (w : World) : SecOk (w.alloc (.cells (zeros.map B8).toArray 5)) zeros (.slice (some ⟨w.heap.size, 0, none⟩) 64 64) :=
  ⟨w.heap.size, 64, _, rfl, heap_alloc_new w _, by simp [zeros], zeros_len⟩
theorem L3.next {wr w3 w5 : World} {m k c c5 : Nat} {L A5 : Option Addr} {vs : List Value} (hk : k < m) (hb : Below wr.heap.size wr w3) (hs : ∀ j : Nat, j < k → ∃ v, vs[j]? = some v ∧ SecOk w3 zeros v) (hlen : vs.length = k)
    (ho : OwnG w3 wr.heap.size 28 1 L k c vs)
    (h5 : OwnG w5 wr.heap.size 28 1 A5 (k + 1) c5 (vs ++ [.slice (some ⟨w3.heap.size, 0, none⟩) 64 64]))
    (hg : ((w3.alloc (.cells (zeros.map B8).toArray 5)).alloc (.cells #[.slice (some ⟨w3.heap.size, 0, none⟩) 64 64] 28)).grownBy w5 (Value.slice L k c).ownBlock)
    (hb5 : Below wr.heap.size ((w3.alloc (.cells (zeros.map B8).toArray 5)).alloc (.cells #[.slice (some ⟨w3.heap.size, 0, none⟩) 64 64] 28)) w5) :
    L3 wr m (.slice A5 (k + 1) c5) (.int .i64 ((k : Int) + 1)) w5 := by
  have hb4 : Below w3.heap.size w3 ((w3.alloc (.cells (zeros.map B8).toArray 5)).alloc (.cells #[.slice (some ⟨w3.heap.size, 0, none⟩) 64 64] 28)) := ((Below.refl _ _).alloc (Nat.le_refl _) _).alloc (by simp) _
  have hk5 : BytesKept ((w3.alloc (.cells (zeros.map B8).toArray 5)).alloc (.cells #[.slice (some ⟨w3.heap.size, 0, none⟩) 64 64] 28)) w5 := keep_ty hg (own_row_ty ((ho.alloc (.cells (zeros.map B8).toArray 5)).alloc (.cells #[.slice (some ⟨w3.heap.size, 0, none⟩) 64 64] 28))) (t := 5) (by decide)
  refine ⟨k + 1, A5, c5, _, hk, by simp, rfl, (hb.trans (hb4.mono hb.size)).trans hb5, h5, fun j hj => ?_⟩
  rcases Nat.lt_or_ge j k with h | h
  · obtain ⟨v, h1, h2⟩ := hs j h
    exact ⟨v, by rw [List.getElem?_append_left (by omega)]; exact h1, (h2.below hb4).keep hk5⟩
  · obtain rfl : j = k := by omega
    refine ⟨_, by rw [List.getElem?_append_right (by omega), hlen]; simp, ((SecOk.new w3).below (below_al' _)).keep hk5⟩
theorem L3.row {wr w3 : World} {m c : Nat} {L : Option Addr} {vs : List Value} {F : Nat → Prop} (hs : ∀ j : Nat, j < m → ∃ v, vs[j]? = some v ∧ SecOk w3 zeros v) (ho : OwnG w3 wr.heap.size 28 1 L m c vs) (hF : ∀ g, wr.heap.size ≤ g → g < w3.heap.size → F g) :
    RowAt w3 F (.slice L m c) (List.replicate m zeros) := by
  refine ⟨vs, by simpa using Vec.of_own ho hF, fun k b hb => ?_⟩
  rw [List.getElem?_replicate] at hb
  split at hb
  · rename_i h
    injection hb with hb
    subst hb
    exact hs k h
  · cases hb
theorem L2.next {w wr w3 w5 : World} {r i n : Nat} {D T V V5 lv : Value} {sh : Array Value} {zs1 zs2 : List Int} {z : Int} {rows : List Value} {row : Option Nat} {l : List (List UInt8)}
    (hz : (zs1 ++ zs2)[i]? = some z) (hin : i < n) (hbl : Below w.heap.size w wr) (hr0 : w.heap.size < r)
    (hblk : Blk wr r 78 #[D, T, V, .slice none 0 0, .bool false, .bool false, .int .i64 0, .int .i64 0, .int .i64 0])
    (hD : Vec wr (New w wr) 3 1 D zs1.length (zs1.map intV)) (hT : Vec wr (New w wr) 3 1 T zs2.length (zs2.map intV)) (hS : Blk wr w.heap.size 44 sh)
    (hlen : rows.length = i) (h2 : ∀ (j : Nat) (l : List (List UInt8)), ((TG zs1 zs2).take i)[j]? = some l → ∃ v, rows[j]? = some v ∧ RowAt wr (New w wr) v l)
    (h3 : ∀ (i j g : Nat), (rows[i]?).bind Value.ownBlock = some g → (rows[j]?).bind Value.ownBlock = some g → i = j) (h4 : ∀ (i g : Nat), (rows[i]?).bind Value.ownBlock = some g → New w wr g ∧ g < wr.heap.size)
    (hb3 : Below wr.heap.size wr w3) (hrow : RowAt w3 (New w w3) lv l) (hlv : ∀ g, lv.ownBlock = some g → wr.heap.size ≤ g ∧ g < w3.heap.size) (hl : (TG zs1 zs2)[i]? = some l)
    (hg : (w3.alloc (.cells #[lv] 79)).grownBy w5 row) (hr : row = none ∨ ∃ g cs, row = some g ∧ New w wr g ∧ (w3.alloc (.cells #[lv] 79)).heap[g]? = some (Obj.cells cs 79 (0, 0)))
    (hV : Vec w5 (Grow (New w wr) (w3.alloc (.cells #[lv] 79)) w5) 79 1 V5 (i + 1) (rows ++ [lv])) :
    L2 w r D T sh zs1 zs2 n (.int .i64 ((i : Int) + 1)) (w5.setCell ⟨r, 2, none⟩ V5) := by
  have hb4 : Below wr.heap.size wr (w3.alloc (.cells #[lv] 79)) := hb3.trans ((below_al' _).mono hb3.size)
  have hsz4 : w3.heap.size ≤ (w3.alloc (.cells #[lv] 79)).heap.size := (below_al' (w := w3) _).size
  have hr' : row = none ∨ ∃ g cs, row = some g ∧ (w3.alloc (.cells #[lv] 79)).heap[g]? = some (Obj.cells cs 79 (0, 0)) := hr.imp id fun ⟨g, cs, x, _, y⟩ => ⟨g, cs, x, y⟩
  have hkt : ∀ (t : TypeId), t ≠ 79 → ∀ (g : Nat) (cs : Array Value), wr.heap[g]? = some (Obj.cells cs t (0, 0)) → w5.heap[g]? = some (Obj.cells cs t (0, 0)) := fun t ht g cs h => keep_ty hg hr' ht g cs ((hb4.block g (lt_heap h)).trans h)
  have hblk5 : Blk w5 r 78 #[D, T, V, .slice none 0 0, .bool false, .bool false, .int .i64 0, .int .i64 0, .int .i64 0] := hkt _ (by decide) r _ hblk
  have hkt6 : ∀ (t : TypeId), t ≠ 78 → ∀ (g : Nat) (cs : Array Value), w5.heap[g]? = some (Obj.cells cs t (0, 0)) → (w5.setCell ⟨r, 2, none⟩ V5).heap[g]? = some (Obj.cells cs t (0, 0)) := fun t ht g cs h =>
    Blk.far (w := w5) (g := g) (t := t) (cs := cs) h (Blk.ne_ (w := w5) (g := g) (t := t) (cs := cs) h hblk5 ht) V5
  have hsz5 := hg.size
  have hsz6 : (w5.setCell ⟨r, 2, none⟩ V5).heap.size = w5.heap.size := by simp
  have hnew : ∀ g, New w wr g → New w (w5.setCell ⟨r, 2, none⟩ V5) g := fun g h => ⟨h.1, by rw [hsz6]; have := h.2; have := hb3.size; omega⟩
  have hil : ((TG zs1 zs2).take i).length = i := by
    have h1 := (List.getElem?_eq_some_iff.1 hz).1
    rw [List.length_append] at h1
    rw [List.length_take, TG_len]
    omega
  refine ⟨i + 1, V5, hin, by simp, ?_, ?_, ?_, ?_, ?_, ?_⟩
  · refine Mods.below (F := fun _ => False) (((Mods.of_below (hbl.trans (hb4.mono hbl.size))).grown hg (Nat.le_trans hbl.size hb4.size) fun g hg => .inr ?_).setCell (.inr (Nat.le_of_lt hr0)) V5) fun _ _ h => h
    rcases hr with h | ⟨g', cs', h, hn, _⟩
    · rw [h] at hg; cases hg
    · rw [h] at hg
      injection hg with hg
      subst hg
      exact hn.1
  · exact hblk5.set_ 2 V5
  · exact ((hD.heap (hkt _ (by decide))).heap (hkt6 _ (by decide))).mono fun g _ h => hnew g h
  · exact ((hT.heap (hkt _ (by decide))).heap (hkt6 _ (by decide))).mono fun g _ h => hnew g h
  · exact hkt6 _ (by decide) _ _ (hkt _ (by decide) _ _ hS)
  · have htake : (TG zs1 zs2).take (i + 1) = (TG zs1 zs2).take i ++ [l] := by
      rw [List.take_add_one, hl]
      rfl
    rw [htake]
    have hp : HasAt w5 (New w w5) V5 ((TG zs1 zs2).take i ++ [l]) := by
      refine HasAt.push (v := lv) (w := w3.alloc (.cells #[lv] 79)) (F := New w (w3.alloc (.cells #[lv] 79))) (B := wr.heap.size) (row := row) (by rw [hil]; exact hlen) (fun j l' hl' => ?_) h3 (fun j g hj => ?_) hb4.size ?_ (fun g hgv => ?_) hg hr' (fun g h => ⟨h.1, Nat.lt_of_lt_of_le h.2 hsz5⟩) ?_
      · obtain ⟨v, h5, h6⟩ := h2 j l' hl'
        exact ⟨v, h5, (h6.mods (Mods.of_below (F := fun _ => False) hb4) (fun g hg _ => ⟨hg, fun x => x⟩) (RMods.of_below (F := fun _ => False) hb4).bytes).mono fun g _ h => ⟨h.1, Nat.lt_of_lt_of_le h.2 hb4.size⟩⟩
      · exact ⟨⟨(h4 j g hj).1.1, Nat.lt_of_lt_of_le (h4 j g hj).2 hb4.size⟩, (h4 j g hj).2⟩
      · have hb34 : Below w3.heap.size w3 (w3.alloc (.cells #[lv] 79)) := below_al' _
        exact (hrow.mods (Mods.of_below (F := fun _ => False) hb34) (fun g hg _ => ⟨hg, fun x => x⟩) (RMods.of_below (F := fun _ => False) hb34).bytes).mono fun g _ h => ⟨h.1, Nat.lt_of_lt_of_le h.2 hsz4⟩
      · have h5 := hlv g hgv
        exact ⟨h5.1, ⟨Nat.le_trans hbl.size h5.1, Nat.lt_of_lt_of_le h5.2 hsz4⟩, Nat.lt_of_lt_of_le h5.2 hsz4⟩
      · rw [hil]
        exact hV.mono fun g hlt h => by
          rcases h with h | h
          · exact ⟨h.1, hlt⟩
          · exact ⟨Nat.le_trans (Nat.le_trans hbl.size hb4.size) h.1, hlt⟩
    exact (hp.heap (hkt6 _ (by decide)) (hkt6 _ (by decide)) (hkt6 _ (by decide)) (by rw [hsz6]; exact Nat.le_refl _)).mono fun g _ h => ⟨h.1, by rw [hsz6]; exact h.2⟩
/-- All the rounds are done. -/
theorem L2.done {w wr : World} {r n1 n2 : Nat} {D T V : Value} {zs1 zs2 : List Int} (hl1 : zs1.length = n1) (hl2 : zs2.length = n2) (hr0 : w.heap.size < r)
    (hN : newM zs1 zs2 = if n1 + n2 = 0 ∨ 12 < n1 + n2 ∨ (zs1 ++ zs2).any (fun n => n < 1 || 4096 < n) = true then none
    else some { disks := zs1.map Int.toNat, tapes := zs2.map Int.toNat, devs := newDevs (zs1.map Int.toNat) (zs2.map Int.toNat), waits := [], off := false, fuse := none, steps := 0, now := 0 })
    (h0 : ¬ n1 + n2 = 0) (h12 : ¬ 12 < n1 + n2) (hall : ∀ z ∈ zs1 ++ zs2, okN z)
    (hblk : Blk wr r 78 #[D, T, V, .slice none 0 0, .bool false, .bool false, .int .i64 0, .int .i64 0, .int .i64 0])
    (hD : Vec wr (New w wr) 3 1 D zs1.length (zs1.map intV)) (hT : Vec wr (New w wr) 3 1 T zs2.length (zs2.map intV)) (hH : HasAt wr (New w wr) V ((TG zs1 zs2).take (n1 + n2))) :
    ∃ p, newM zs1 zs2 = some p ∧ RefAt wr (New w wr) r p := by
  have hz : ¬ (n1 + n2 = 0 ∨ 12 < n1 + n2 ∨ (zs1 ++ zs2).any (fun n => n < 1 || 4096 < n) = true) := by
    rintro (h | h | h)
    · exact h0 h
    · exact h12 h
    · obtain ⟨z, hz, h⟩ := List.any_eq_true.1 h
      have := hall z hz
      unfold okN at this
      simp at h
      omega
  rw [if_neg hz] at hN
  refine ⟨_, hN, 0, D, T, V, .slice none 0 0, ?_⟩
  rw [List.take_of_length_le (by rw [TG_len]; omega)] at hH
  rw [map_nat (fun z hz => hall z (List.mem_append_left _ hz))] at hD
  rw [map_nat (fun z hz => hall z (List.mem_append_right _ hz))] at hT
  exact ⟨hblk, ⟨Nat.le_of_lt hr0, hblk.lt⟩, fun n h => (by cases h), (by omega), (by simpa using hD), (by simpa using hT), hH, ⟨[], Vec.nil_ _ _ _ _ _, rfl, fun i x h => (by simp at h)⟩⟩
end Go.Proofs.Ytomncfiklkhfjaa.Ref
