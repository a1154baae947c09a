/- A new plant. -/
import Derived.Test.YtloffgoenaomkaaDoorFold5
namespace Go.Proofs.YtloffgoenaomkaaDoor.Pl
open Go Go.RowKit Mem
/-- The blocks made since w. -/
abbrev New (w w' : World) : Nat → Prop := fun g => w.heap.size ≤ g ∧ g < w'.heap.size
def RetN (w : World) (o : Option PM) (e : Ending) (w' : World) : Prop :=
  Below w.heap.size w w' ∧ ((o = none ∧ e = .returned (.tuple #[.pointer none, .int .i64 30])) ∨ ∃ (a : Nat) (p : PM), o = some p ∧ e = .returned (.tuple #[.pointer (some ⟨a, 0, none⟩), .int .i64 0]) ∧ PlantAt w' (New w w') a p)
def okN (z : Int) : Prop := 1 ≤ z ∧ z ≤ 4096
def devOf (n1 k : Nat) (z : Int) : Dev := ⟨decide (n1 ≤ k), z.toNat, if k < n1 then List.replicate z.toNat zeros else []⟩
theorem newDevs_len (d t : List Nat) : (newDevs d t).length = d.length + t.length := by simp [newDevs]
theorem newDevs_get {zs1 zs2 : List Int} {k : Nat} {z : Int} (h : (zs1 ++ zs2)[k]? = some z) : (newDevs (zs1.map Int.toNat) (zs2.map Int.toNat))[k]? = some (devOf zs1.length k z) := by
  unfold newDevs devOf
  rcases Nat.lt_or_ge k zs1.length with hk | hk
  · rw [List.getElem?_append_left hk] at h
    rw [List.getElem?_append_left (by simpa using hk), List.getElem?_map, List.getElem?_map, h]
    simp [hk]
  · rw [List.getElem?_append_right hk] at h
    rw [List.getElem?_append_right (by simpa using hk)]
    have hn : ¬ k < zs1.length := by omega
    simp [h, hk, hn]
theorem devOf_at (n1 k : Nat) (z : Int) : (devOf n1 k z).at_ = fun _ => zeros := by
  funext j
  unfold devOf Dev.at_
  split
  · rw [List.getD_eq_getElem?_getD, List.getElem?_replicate]
    split <;> rfl
  · simp
/-- The state at the head of a round: the devices so far. -/
def NewR (w : World) (a : Nat) (D T R : Value) (sh : Array Value) (zs1 zs2 : List Int) (iv : Value) (wr : World) : Prop :=
  ∃ (k : Nat) (V : Value), k ≤ (zs1 ++ zs2).length ∧ iv = .int .i64 (k : Int) ∧ (∀ z ∈ (zs1 ++ zs2).take k, okN z) ∧ Below w.heap.size w wr ∧
    Blk wr a 82 #[D, T, V, .slice none 0 0, .bool false, .int .i64 (-1), .int .i64 0, .int .i64 0] ∧ Vec wr (New w wr) 3 1 D zs1.length (zs1.map intV) ∧ Vec wr (New w wr) 3 1 T zs2.length (zs2.map intV) ∧
    Vec wr (New w wr) 3 1 R (zs1 ++ zs2).length ((zs1 ++ zs2).map intV) ∧ Blk wr w.heap.size 30 sh ∧
    DevsAt wr (New w wr) V ((newDevs (zs1.map Int.toNat) (zs2.map Int.toNat)).take k) fun _ => 0
theorem DevsAt.nil_ (w : World) (F : Nat → Prop) (wc : Nat → Nat) : DevsAt w F (.slice none 0 0) [] wc := ⟨[], Vec.nil_ _ _ _ _ _, rfl, List.nodup_nil, fun i d m h => by simp at h⟩
/-- A device more. -/
theorem DevsAt.snoc {w w' w2 : World} {F F' : Nat → Prop} {V' : Value} {ds : List Dev} {d : Dev} {ms : List Nat} (h3 : ms.length = ds.length) (h4 : ms.Nodup) (h5 : ∀ (i : Nat) (d : Dev) (m : Nat), ds[i]? = some d → ms[i]? = some m → SecMap w m d.at_ ∧ F m) (hd : d.at_ = fun _ => zeros) (row : Option Nat) (h2 : Below w.heap.size w w2) (hm : SecMap w2 w.heap.size fun _ => zeros)
    (hr : row = none ∨ ∃ g cs, row = some g ∧ F g ∧ w2.heap[g]? = some (.cells cs 86 (0, 0))) (hg : w2.grownBy w' row) (hF : ∀ g, F g → F' g) (hF2 : F' w.heap.size)
    (hv : Vec w' F' 86 5 V' (ds.length + 1) ((devRows (fun _ => 0) 0 ds ms).flatten ++ devRow d w.heap.size 0)) :
    DevsAt w' F' V' (ds ++ [d]) fun _ => 0 := by
  have hmap : ∀ (m : Nat) (f : Nat → List UInt8), SecMap w2 m f → SecMap w' m f := fun m f hs => by
    obtain ⟨es, c, he⟩ := hs.obj
    refine hs.heap (hg.block m hs.lt ?_)
    rcases hr with rfl | ⟨g, cs, rfl, _, hh⟩
    · simp
    · intro e
      injection e with e
      subst e
      rw [hh] at he
      cases he
  have hlt : ∀ m ∈ ms, m < w.heap.size := fun m hm' => by
    obtain ⟨i, hi, rfl⟩ := List.getElem_of_mem hm'
    exact (h5 i ds[i] ms[i] (List.getElem?_eq_getElem (by omega)) (List.getElem?_eq_getElem hi)).1.lt
  refine ⟨ms ++ [w.heap.size], ?_, by simp [h3], ?_, fun i d' m hd' hm' => ?_⟩
  · rw [devRows_snoc _ _ _ _ _ _ h3, List.flatten_append, List.length_append]
    simpa using hv
  · rw [List.nodup_append]
    refine ⟨h4, by simp, fun x hx y hy => ?_⟩
    simp at hy
    subst hy
    have := hlt x hx
    omega
  · rcases Nat.lt_or_ge i ds.length with hi | hi
    · rw [List.getElem?_append_left hi] at hd'
      rw [List.getElem?_append_left (by omega)] at hm'
      obtain ⟨h6, h7⟩ := h5 i d' m hd' hm'
      exact ⟨hmap m _ (h6.heap (h2.block m h6.lt)), hF m h7⟩
    · rw [List.getElem?_append_right hi] at hd'
      rw [List.getElem?_append_right (by omega), h3] at hm'
      have e : i - ds.length = 0 := by
        rcases Nat.eq_zero_or_pos (i - ds.length) with h | h
        · exact h
        · rw [List.getElem?_eq_none (by simp; omega)] at hd'; cases hd'
      rw [e] at hd' hm'
      simp at hd' hm'
      subst hd' hm'
      rw [hd]
      exact ⟨hmap _ _ hm, hF2⟩
/-- The state behind a round. -/
theorem NewR.next {w wr w6 : World} {a k : Nat} {D T R V : Value} {sh : Array Value} {zs1 zs2 : List Int} {z : Int} {ms : List Nat} {row : Option Nat} {V6 : Value} {rcs : List Value} (haw : w.heap.size < a) (hlt : k < (zs1 ++ zs2).length)
    (hz : (zs1 ++ zs2)[k]? = some z) (hok : okN z) (hall : ∀ z ∈ (zs1 ++ zs2).take k, okN z) (hbl : Below w.heap.size w wr) (halt : a < wr.heap.size)
    (hblk : Blk wr a 82 #[D, T, V, .slice none 0 0, .bool false, .int .i64 (-1), .int .i64 0, .int .i64 0])
    (hD : Vec wr (New w wr) 3 1 D zs1.length (zs1.map intV)) (hT : Vec wr (New w wr) 3 1 T zs2.length (zs2.map intV))
    (hR : Vec wr (New w wr) 3 1 R (zs1 ++ zs2).length ((zs1 ++ zs2).map intV)) (hS : Blk wr w.heap.size 30 sh)
    (hms : ms.length = ((newDevs (zs1.map Int.toNat) (zs2.map Int.toNat)).take k).length) (hnd : ms.Nodup)
    (hmm : ∀ (i : Nat) (d : Dev) (m : Nat), ((newDevs (zs1.map Int.toNat) (zs2.map Int.toNat)).take k)[i]? = some d → ms[i]? = some m → SecMap wr m d.at_ ∧ New w wr m)
    (hrow : devRow (devOf zs1.length k z) wr.heap.size 0 = rcs)
    (hv6 : Vec w6 (Grow (New w wr) ((wr.alloc (.map #[] 0)).alloc (.cells rcs.toArray 86)).drew w6) 86 5 V6 (k + 1) ((devRows (fun _ => 0) 0 ((newDevs (zs1.map Int.toNat) (zs2.map Int.toNat)).take k) ms).flatten ++ rcs))
    (hg6 : ((wr.alloc (.map #[] 0)).alloc (.cells rcs.toArray 86)).drew.grownBy w6 row)
    (hr6 : row = none ∨ ∃ g cs, row = some g ∧ New w wr g ∧ ((wr.alloc (.map #[] 0)).alloc (.cells rcs.toArray 86)).drew.heap[g]? = some (.cells cs 86 (0, 0))) :
    NewR w a D T R sh zs1 zs2 (.int .i64 ((k : Int) + 1)) (w6.setCell ⟨a, 2, none⟩ V6) := by
  have hsz : wr.heap.size + 2 ≤ w6.heap.size := by
    have := hg6.size
    have h2 : ((wr.alloc (.map #[] 0)).alloc (.cells rcs.toArray 86)).drew.heap.size = wr.heap.size + 2 := by
      show ((wr.alloc (.map #[] 0)).alloc (.cells rcs.toArray 86)).heap.size = _
      simp
    omega
  have hsz2 : (w6.setCell ⟨a, 2, none⟩ V6).heap.size = w6.heap.size := by simp [World.setCell]
  have hne : ∀ (g : Nat) (t : TypeId) (cs : Array Value), wr.heap[g]? = some (.cells cs t (0, 0)) → t ≠ 86 → some g ≠ row := fun g t cs hg ht e => by
    rcases hr6 with h | ⟨g', cs', h, _, hh⟩
    · rw [h] at e; cases e
    · rw [h] at e
      injection e with e
      subst e
      have hx : Blk wr g t cs := hg
      have := ((hx.alloc (.map #[] 0)).alloc (.cells rcs.toArray 86)).drew
      unfold Blk at this
      rw [this] at hh
      injection hh with hh
      injection hh with _ hh
      exact ht hh
  have h6 : ∀ (g : Nat) (t : TypeId) (cs : Array Value), Blk wr g t cs → t ≠ 86 → Blk w6 g t cs := fun g t cs hg ht =>
    (((hg.alloc (.map #[] 0)).alloc (.cells rcs.toArray 86)).drew).grown hg6 (hne g t cs hg ht)
  have h7 : ∀ (g : Nat) (t : TypeId) (cs : Array Value), Blk wr g t cs → t ≠ 86 → t ≠ 82 → Blk (w6.setCell ⟨a, 2, none⟩ V6) g t cs := fun g t cs hg ht hp =>
    (h6 g t cs hg ht).far (hg.ne_ hblk hp) V6
  have hmono : ∀ g, New w wr g → New w (w6.setCell ⟨a, 2, none⟩ V6) g := fun g hg => ⟨hg.1, by rw [hsz2]; have := hg.2; omega⟩
  have hlen : ((newDevs (zs1.map Int.toNat) (zs2.map Int.toNat)).take k).length = k := by
    rw [List.length_take, newDevs_len, List.length_map, List.length_map]
    rw [List.length_append] at hlt
    omega
  have htake : (newDevs (zs1.map Int.toNat) (zs2.map Int.toNat)).take (k + 1) = (newDevs (zs1.map Int.toNat) (zs2.map Int.toNat)).take k ++ [devOf zs1.length k z] := by
    rw [List.take_add_one, newDevs_get hz]
    rfl
  have hbl2 : Below wr.heap.size wr ((wr.alloc (.map #[] 0)).alloc (.cells rcs.toArray 86)).drew := (((Below.refl _ _).alloc (Nat.le_refl _) _).alloc (by simp) _).drew
  have hbl3 : Below w.heap.size w ((wr.alloc (.map #[] 0)).alloc (.cells rcs.toArray 86)).drew := hbl.trans (hbl2.mono hbl.size)
  refine ⟨k + 1, V6, by omega, by simp, ?_, ?_, ?_, ?_, ?_, ?_, ?_, ?_⟩
  · intro x hx
    rw [List.take_add_one, hz] at hx
    rcases List.mem_append.1 hx with hx | hx
    · exact hall x hx
    · simp at hx
      subst hx
      exact hok
  · refine Mods.below (F := fun _ => False) (((Mods.of_below hbl3).grown hg6 (Nat.le_trans hbl.size hbl2.size) fun g hg => .inr ?_).setCell (.inr (Nat.le_of_lt haw)) V6) fun _ _ h => h
    rcases hr6 with h | ⟨g', cs', h, hn, _⟩
    · rw [h] at hg; cases hg
    · rw [h] at hg
      injection hg with hg
      subst hg
      exact hn.1
  · exact (h6 a _ _ hblk (by decide)).set_ 2 V6
  · exact (hD.heap fun g cs hg => h7 g _ cs hg (by decide) (by decide)).mono fun g _ hg => hmono g hg
  · exact (hT.heap fun g cs hg => h7 g _ cs hg (by decide) (by decide)).mono fun g _ hg => hmono g hg
  · exact (hR.heap fun g cs hg => h7 g _ cs hg (by decide) (by decide)).mono fun g _ hg => hmono g hg
  · exact h7 _ _ _ hS (by decide) (by decide)
  · rw [htake]
    have hg := Grow (New w wr) ((wr.alloc (.map #[] 0)).alloc (.cells rcs.toArray 86)).drew w6
    have hsn : DevsAt w6 (New w (w6.setCell ⟨a, 2, none⟩ V6)) V6 ((newDevs (zs1.map Int.toNat) (zs2.map Int.toNat)).take k ++ [devOf zs1.length k z]) fun _ => 0 := by
      refine DevsAt.snoc (F := New w wr) hms hnd hmm (devOf_at _ _ _) row hbl2 (((SecMap.made wr).heap (Below.heap_alloc _ _ _ (by simp))).heap rfl) hr6 hg6 hmono ⟨hbl.size, by rw [hsz2]; omega⟩ ?_
      rw [hlen, hrow]
      refine hv6.mono fun g hg h => ?_
      rcases h with h | ⟨h, h'⟩
      · exact hmono g h
      · exact ⟨Nat.le_trans (Nat.le_trans hbl.size hbl2.size) h, by rw [hsz2]; exact h'⟩
    have hb6 := h6 a _ _ hblk (by decide)
    exact hsn.heap (fun g cs hg => (Below.heap_setCell w6 ⟨a, 2, none⟩ V6 g (by
      rintro rfl
      unfold Blk at hb6
      rw [hb6] at hg
      injection hg with hg
      injection hg with _ hg
      exact absurd hg (by decide))).trans hg) (fun g es c hg => (Below.heap_setCell w6 ⟨a, 2, none⟩ V6 g (by
      rintro rfl
      unfold Blk at hb6
      rw [hb6] at hg
      cases hg)).trans hg)
theorem map_nat {zs : List Int} (h : ∀ z ∈ zs, okN z) : zs.map intV = (zs.map Int.toNat).map natV := by
  rw [List.map_map]
  refine List.map_congr_left fun z hz => ?_
  have := (h z hz).1
  simp only [Function.comp, intV, natV, Int.toNat_of_nonneg (by omega : 0 ≤ z)]
/-- All the rounds are done. -/
theorem NewR.done {w wr : World} {a cV n1 n2 : Nat} {D T : Value} {AV : Option Addr} {zs1 zs2 : List Int} (hl : (zs1 ++ zs2).length = n1 + n2) (hl1 : zs1.length = n1) (hl2 : zs2.length = n2) (haw : w.heap.size ≤ a)
    (hN : newM zs1 zs2 = if n1 + n2 = 0 ∨ 12 < n1 + n2 ∨ (zs1 ++ zs2).any (fun n => n < 1 || 4096 < n) = true then none
    else some { disks := zs1.map Int.toNat, tapes := zs2.map Int.toNat, devs := newDevs (zs1.map Int.toNat) (zs2.map Int.toNat), waits := [], off := false, fuse := none, steps := 0, now := 0 })
    (h0 : ¬ n1 + n2 = 0) (h12 : ¬ 12 < n1 + n2)
    (hall : ∀ z ∈ (zs1 ++ zs2).take (n1 + n2), okN z)
    (hblk : Blk wr a 82 #[D, T, .slice AV (n1 + n2) cV, .slice none 0 0, .bool false, .int .i64 (-1), .int .i64 0, .int .i64 0])
    (hD : Vec wr (New w wr) 3 1 D zs1.length (zs1.map intV)) (hT : Vec wr (New w wr) 3 1 T zs2.length (zs2.map intV))
    (hdv : DevsAt wr (New w wr) (.slice AV (n1 + n2) cV) ((newDevs (zs1.map Int.toNat) (zs2.map Int.toNat)).take (n1 + n2)) fun _ => 0) :
    ∃ p, newM zs1 zs2 = some p ∧ PlantAt wr (New w wr) a p := by
  rw [← hl, List.take_length] at hall
  have hz : ¬ (n1 + n2 = 0 ∨ 12 < n1 + n2 ∨ (zs1 ++ zs2).any (fun n => n < 1 || 4096 < n) = true) := by
    rintro (h | h | h)
    · exact h0 h
    · exact h12 h
    · obtain ⟨z, hz, h⟩ := List.any_eq_true.1 h
      have := hall z hz
      unfold okN at this
      simp at h
      omega
  rw [if_neg hz] at hN
  refine ⟨_, hN, D, T, .slice AV (n1 + n2) cV, .slice none 0 0, ?_⟩
  have hdl : (newDevs (zs1.map Int.toNat) (zs2.map Int.toNat)).length = n1 + n2 := by rw [newDevs_len, List.length_map, List.length_map, hl1, hl2]
  rw [← hdl, List.take_length, hdl] at hdv
  rw [map_nat (fun z hz => hall z (List.mem_append_left _ hz))] at hD
  rw [map_nat (fun z hz => hall z (List.mem_append_right _ hz))] at hT
  refine ⟨hblk, ⟨haw, hblk.lt⟩, by simpa using hD, by simpa using hT, ?_, Vec.nil_ _ _ _ _ _⟩
  have hwc : wcOf ({ disks := zs1.map Int.toNat, tapes := zs2.map Int.toNat, devs := newDevs (zs1.map Int.toNat) (zs2.map Int.toNat), waits := [], off := false, fuse := none, steps := 0, now := 0 } : PM) = fun _ => 0 := by
    funext i
    unfold wcOf cnt
    simp
  rw [hwc]
  exact hdv
set_option maxRecDepth 100000 in
set_option maxHeartbeats 4000000 in
theorem new_any (w : World) (A1 A2 : Option Addr) (n1 n2 k1 k2 : Nat) (zs1 zs2 : List Int) (h1 : IAt w A1 zs1) (h2 : IAt w A2 zs2) (hl1 : zs1.length = n1) (hl2 : zs2.length = n2) (hn1 : n1 ≤ 1000000000) (hn2 : n2 ≤ 1000000000) :
    Calls Tryd.prog 9 #[.agg #[.slice A1 n1 k1, .slice A2 n2 k2]] w (RetN w (newM zs1 zs2)) := by
  have H1 := Lib.hid h1
  have H2 := Lib.hid h2
  have HL1 := Lib.hid hl1
  have HL2 := Lib.hid hl2
  have HN1 : Hid (newM zs1 zs2 = if n1 + n2 = 0 ∨ 12 < n1 + n2 ∨ (zs1 ++ zs2).any (fun n => n < 1 || 4096 < n) = true then none
    else some { disks := zs1.map Int.toNat, tapes := zs2.map Int.toNat, devs := newDevs (zs1.map Int.toNat) (zs2.map Int.toNat), waits := [], off := false, fuse := none, steps := 0, now := 0 }) := Lib.hid (by
      unfold newM
      rw [hl1, hl2])
  clear h1 h2 hl1 hl2
  by_cases h0 : n1 + n2 = 0
  · have e : newM zs1 zs2 = none := by rw [HN1.out, if_pos (.inl h0)]
    rw [e]
    obtain rfl : n1 = 0 := by omega
    obtain rfl : n2 = 0 := by omega
    clear e h0
    go_enter Tryd.func9, Tryd.ntmps9
    go_wp2_with fail
    go_ret2
    exact ⟨below_al' _, .inl ⟨rfl, rfl⟩⟩
  · by_cases h12 : 12 < n1 + n2
    · have e : newM zs1 zs2 = none := by rw [HN1.out, if_pos (.inr (.inl h12))]
      rw [e]
      have hb0 : (((n1 : Int) + (n2 : Int)) == 0) = false := by rw [beq_eq_false_iff_ne]; omega
      have hb1 : (12 : Int) < (n1 : Int) + (n2 : Int) := by omega
      clear e h0
      go_enter Tryd.func9, Tryd.ntmps9
      go_wp2_with fail
      go_ret2
      exact ⟨below_al' _, .inl ⟨rfl, rfl⟩⟩
    · have hb0 : (((n1 : Int) + (n2 : Int)) == 0) = false := by rw [beq_eq_false_iff_ne]; omega
      have hb1 : (n1 : Int) + (n2 : Int) ≤ 12 := by omega
      have hs0 := Blk.new w 30 #[.slice A1 n1 k1, .slice A2 n2 k2]
      have c0 := (hs0.cell 0).trans (show _ = some (.slice A1 n1 k1) from rfl)
      have c1 := (hs0.cell 1).trans (show _ = some (.slice A2 n2 k2) from rfl)
      have HS0 := Lib.hid hs0
      clear hs0
      go_enter Tryd.func9, Tryd.ntmps9
      go_wp2_with fail
      refine Ord.region_ord [2] [0, 1, 3, 4, 2, 5, 6, 7, 8, 9] (by kernel_rfl) (by kernel_rfl) (by kernel_rfl) (by kernel_rfl) (Ord.ord_run [0, 1, 3, 4] [_, _, _, _] rfl (by kernel_rfl) ?_)
      go_wp2_with fail
      refine Ord.nx_ord (Ord.ord_one rfl ?_)
      go_wp2_with fail
      refine (cloneI_any ((H1.out.below (below_al' (.cells #[.slice A1 n1 k1, .slice A2 n2 k2] 30))).below (w' := World.drew _) (below_drewN (Below.refl _ _) 1)) HL1.out hn1).mono ?_
      rintro e w2 ⟨D, rfl, hv2, hb2⟩
      obtain ⟨AD, kD, rfl⟩ := hv2.shape
      have HV2 := Lib.hid hv2
      have HB2 := Lib.hid hb2
      have HW2 : Hid (Below w.heap.size w w2) := Lib.hid ((below_al' _).drew.trans (hb2.mono (by show w.heap.size ≤ (w.alloc _).heap.size; simp)))
      clear hv2 hb2
      go_wp2_with fail
      refine Ord.nx_and HB2.out (Ord.ord_all [_, _, _, _, _] rfl (by kernel_rfl) ?_)
      go_wp2_with fail
      refine (cloneI_any (H2.out.below HW2.out) HL2.out hn2).mono ?_
      rintro e w3 ⟨T, rfl, hv3, hb3⟩
      obtain ⟨AT, kT, rfl⟩ := hv3.shape
      have HV3 := Lib.hid hv3
      have HB3 := Lib.hid hb3
      have HW3 : Hid (Below w.heap.size w w3) := Lib.hid (HW2.out.trans (hb3.mono HW2.out.size))
      clear hv3 hb3
      go_wp2_with fail
      refine Ord.nx_end ?_
      have hs3 := (Blk.below_ (HS0.out.drew) HB2.out).below_ HB3.out
      have d0 := (hs3.cell 0).trans (show _ = some (.slice A1 n1 k1) from rfl)
      have d1 := (hs3.cell 1).trans (show _ = some (.slice A2 n2 k2) from rfl)
      have hslt := hs3.lt
      have HS3 := Lib.hid hs3
      clear hs3 c0 c1
      go_wp2_with fail
      have hbw4 : Below w3.heap.size w3 ((w3.alloc (.cells #[.slice AD n1 kD, .slice AT n2 kT, .slice none 0 0, .slice none 0 0, .bool false, .int .i64 (-1), .int .i64 0, .int .i64 0] 82)).alloc (.cells #[.slice A1 n1 k1, .slice A2 n2 k2] 28)) := ((Below.refl _ _).alloc (Nat.le_refl _) _).alloc (by simp) _
      have hbp4 : Blk ((w3.alloc (.cells #[.slice AD n1 kD, .slice AT n2 kT, .slice none 0 0, .slice none 0 0, .bool false, .int .i64 (-1), .int .i64 0, .int .i64 0] 82)).alloc (.cells #[.slice A1 n1 k1, .slice A2 n2 k2] 28)) w3.heap.size 82 #[.slice AD n1 kD, .slice AT n2 kT, .slice none 0 0, .slice none 0 0, .bool false, .int .i64 (-1), .int .i64 0, .int .i64 0] := (Blk.new w3 _ _).alloc _
      have hbg4 : Blk ((w3.alloc (.cells #[.slice AD n1 kD, .slice AT n2 kT, .slice none 0 0, .slice none 0 0, .bool false, .int .i64 (-1), .int .i64 0, .int .i64 0] 82)).alloc (.cells #[.slice A1 n1 k1, .slice A2 n2 k2] 28)) (w3.heap.size + 1) 28 #[.slice A1 n1 k1, .slice A2 n2 k2] := Blk.new_at _ _ (by simp) _ _
      have HBW4 := Lib.hid hbw4
      have HBP4 := Lib.hid hbp4
      have hcat := concat_any _ (w3.heap.size + 1) A1 A2 n1 n2 k1 k2 zs1 zs2 hbg4 ((H1.out.below HW3.out).below hbw4) ((H2.out.below HW3.out).below hbw4) HL1.out HL2.out (by omega) (by omega)
      clear hbw4 hbp4 hbg4
      refine hcat.mono ?_
      clear hcat
      rintro e w5 ⟨R, rfl, hv5, hb5⟩
      have HW5 : Hid (Below w.heap.size w w5) := Lib.hid ((HW3.out.trans (HBW4.out.mono HW3.out.size)).trans (hb5.mono (Nat.le_trans HW3.out.size HBW4.out.size)))
      have HST : Hid (NewR w w3.heap.size (.slice AD n1 kD) (.slice AT n2 kT) R #[.slice A1 n1 k1, .slice A2 n2 k2] zs1 zs2 (.int .i64 0) w5) := Lib.hid (by
        refine ⟨0, .slice none 0 0, Nat.zero_le _, rfl, by simp, HW5.out, HBP4.out.below_ hb5, ?_, ?_, ?_, (HS3.out.below_ HBW4.out).below_ hb5, by simpa using DevsAt.nil_ _ _ _⟩
        · rw [HL1.out]
          exact (((HV2.out.below HB3.out).below HBW4.out).below hb5).mono fun g hg h => ⟨Nat.le_trans (by show w.heap.size ≤ (w.alloc _).heap.size; simp) h.1, hg⟩
        · rw [HL2.out]
          exact ((HV3.out.below HBW4.out).below hb5).mono fun g hg h => ⟨Nat.le_trans HW2.out.size h.1, hg⟩
        · rw [List.length_append, HL1.out, HL2.out]
          exact hv5.mono fun g hg h => ⟨Nat.le_trans (Nat.le_trans HW3.out.size HBW4.out.size) h.1, hg⟩)
      obtain ⟨AR, cR, rfl⟩ := hv5.shape
      have hNl : (zs1 ++ zs2).length = n1 + n2 := by rw [List.length_append, HL1.out, HL2.out]
      have HNL := Lib.hid hNl
      have HAW := Lib.hid (show w.heap.size ≤ w3.heap.size from HW3.out.size)
      have hnn : ((n1 + n2 : Nat) : Int) = (n1 : Int) + (n2 : Int) := by omega
      clear hv5 hb5 HBW4 HBP4 HV2 HV3 HB2 HB3 HS0 HS3 HW2 HW3 HW5 d0 d1 hNl
      generalize w3.heap.size = a at *
      go_wp2_with fail
      go_loopw [37] (fun iv wr => NewR w a (.slice AD n1 kD) (.slice AT n2 kT) (.slice AR (n1 + n2) cR) #[.slice A1 n1 k1, .slice A2 n2 k2] zs1 zs2 iv wr) (fun iv _ => (n1 + n2) - (intOf iv).toNat)
      case atStart => exact HST.out
      case round =>
        obtain ⟨k, V, hk, rfl, hall, hbl, hbk, hD, hT, hR, hS, hdv⟩ := hrel
        obtain ⟨AV, cV, rfl⟩ : ∃ A c, V = .slice A ((newDevs (zs1.map Int.toNat) (zs2.map Int.toNat)).take k).length c := by obtain ⟨ms, h1, _⟩ := hdv; exact h1.shape
        have hkl : ((newDevs (zs1.map Int.toNat) (zs2.map Int.toNat)).take k).length = k := by
          rw [List.length_take, newDevs_len, List.length_map, List.length_map]
          rw [List.length_append] at hk
          omega
        rw [hkl] at hbk hdv
        rw [HNL.out] at hk hR
        have HALL := Lib.hid hall
        have HBL := Lib.hid hbl
        have HBK := Lib.hid hbk
        have HD := Lib.hid hD
        have HT := Lib.hid hT
        have HR := Lib.hid hR
        have HS := Lib.hid hS
        have HDV := Lib.hid hdv
        have HKL := Lib.hid hkl
        have s0 := (hS.cell 0).trans (show _ = some (.slice A1 n1 k1) from rfl)
        have p2 := (hbk.cell 2).trans (show _ = some (.slice AV k cV) from rfl)
        have halt := hbk.lt
        have hslt2 := hS.lt
        clear hall hbl hbk hD hT hR hS hdv hkl
        by_cases hlt : k < n1 + n2
        · obtain ⟨gR, cap3, cur3, hv3, hrest⟩ := Vec.form HR.out (by omega)
          injection hv3 with hA _ hcp
          subst hA
          clear hcp hrest
          obtain ⟨z, hz⟩ : ∃ z, (zs1 ++ zs2)[k]? = some z := ⟨_, List.getElem?_eq_getElem (by rw [HNL.out]; exact hlt)⟩
          have hcz := HR.out.at_ (k := k) (u := .int .i64 z) (by rw [List.getElem?_map, hz]; rfl)
          have HZ := Lib.hid hz
          clear hz
          by_cases hz1 : z < 1
          · have HE : Hid (newM zs1 zs2 = none) := Lib.hid (by rw [HN1.out, if_pos (.inr (.inr (List.any_eq_true.2 ⟨z, List.mem_of_getElem? HZ.out, by simp; omega⟩)))])
            go_wp2_with fail
            go_ret2
            rw [HE.out]
            exact ⟨HBL.out, .inl ⟨rfl, rfl⟩⟩
          · by_cases hz2 : 4096 < z
            · have HE : Hid (newM zs1 zs2 = none) := Lib.hid (by rw [HN1.out, if_pos (.inr (.inr (List.any_eq_true.2 ⟨z, List.mem_of_getElem? HZ.out, by simp; omega⟩)))])
              go_wp2_with fail
              go_ret2
              rw [HE.out]
              exact ⟨HBL.out, .inl ⟨rfl, rfl⟩⟩
            · go_wp2_with fail
              have hmm := @run_makeMap Tryd.prog
              refine Ord.region_ordM [] [9] [0, 1, 2, 3, 4, 5, 6, 7, 8, 9, 10, 11, 12, 13, 14, 15, 16, 17] (by kernel_rfl) (by kernel_rfl) (by kernel_rfl) (by kernel_rfl) (Ord.ord_run [0, 1, 2, 3, 4, 5, 6, 7, 8] [_, _, _, _, _, _, _, _, _] rfl (by kernel_rfl) ?_)
              go_wp2_with fail
              refine Ord.nx_ord (Ord.ord_pure (.bool (decide ((n1 : Int) ≤ (k : Int)))) rfl (by kernel_rfl) rfl (fun w' => by go_simp) ?_)
              simp only [Act.put, List.setIfInBounds_toArray]
              refine Ord.ord_all [_, _, _, _, _, _, _, _] rfl (by kernel_rfl) ?_
              have hrow : (devRow (devOf n1 k z) wr.heap.size 0) = [.bool (decide (n1 ≤ k)), .int .i64 z, .map (some wr.heap.size), .int .i64 0, .int .i64 0] := by
                have e2 : ((z.toNat : Nat) : Int) = z := by omega
                simp only [devRow, devOf, e2]
                by_cases hkn : k < n1
                · have : ¬ n1 ≤ k := by omega
                  simp [this]
                · simp [hkn]
              have HROW := Lib.hid hrow
              obtain ⟨ms, hvs, hms, hnd, hmm2⟩ := HDV.out
              rw [HKL.out] at hvs
              have HVS := Lib.hid hvs
              have HMS := Lib.hid hms
              have HND := Lib.hid hnd
              have HMM := Lib.hid hmm2
              clear hrow hvs hms hnd hmm2
              go_wp2_with
                (refine wpList_append_vec rfl (.tmp 52) (.tmp 61) _ rfl 40 _ devTy rfl (Vec.alloc (Vec.alloc HVS.out _) _).drew ⟨wr.heap.size + 1, 0, none⟩ 1 1 [.bool (decide (n1 ≤ k)), .int .i64 z, .map (some wr.heap.size), .int .i64 0, .int .i64 0] rfl rfl (blk_news (Blk.new_at (wr.alloc (.map #[] 0)) _ (by simp) _ _)) (by intro v hv; simp at hv; rcases hv with rfl | rfl | rfl | rfl <;> rfl) ?c1 ?c2 ?_
                 case c1 => unfold maxLen; omega
                 case c2 => omega
                 intro V6 w6 row hv6 hg6 hr6
                 obtain ⟨A6, c6, rfl⟩ := hv6.shape
                 have hb6 := (((HBK.out.alloc (.map #[] 0)).alloc (.cells #[.bool (decide (n1 ≤ k)), .int .i64 z, .map (some wr.heap.size), .int .i64 0, .int .i64 0] 86)).drew).grown hg6 (by
                   rcases hr6 with rfl | ⟨g, cs, rfl, _, hh⟩
                   · simp
                   · intro e
                     injection e with e
                     subst e
                     have hx := ((HBK.out.alloc (.map #[] 0)).alloc (.cells #[.bool (decide (n1 ≤ k)), .int .i64 z, .map (some wr.heap.size), .int .i64 0, .int .i64 0] 86)).drew
                     unfold Blk at hx
                     rw [hx] at hh
                     injection hh with hh
                     injection hh with _ hh
                     exact absurd hh (by decide))
                 have f2 := (hb6.cell 2).trans (show _ = some (.slice AV k cV) from rfl)
                 have g2 := hb6.frozen 2
                 have HB6 := Lib.hid hb6
                 have HV6 := Lib.hid hv6
                 have HG6 := Lib.hid hg6
                 have HR6 := Lib.hid hr6
                 clear hb6 hv6 hg6 hr6 p2 s0 hcz)
              refine Ord.nx_end ?_
              go_wp2_with fail
              go_roundw
              case rel =>
                exact NewR.next (rcs := [.bool (decide (n1 ≤ k)), .int .i64 z, .map (some wr.heap.size), .int .i64 0, .int .i64 0]) hslt (by rw [HNL.out]; exact hlt) HZ.out ⟨hz1, hz2⟩ HALL.out HBL.out halt HBK.out HD.out HT.out (by rw [HNL.out]; exact HR.out) HS.out HMS.out HND.out HMM.out (by rw [HL1.out]; exact HROW.out) HV6.out HG6.out HR6.out
              case measure => simp [intOf]; omega
        · obtain rfl : k = n1 + n2 := by omega
          obtain ⟨p, hp1, hp2⟩ := NewR.done HNL.out HL1.out HL2.out HAW.out HN1.out h0 h12 HALL.out HBK.out HD.out HT.out HDV.out
          have HP1 := Lib.hid hp1
          have HP2 := Lib.hid hp2
          clear hp1 hp2 s0 p2
          go_wp2_with fail
          go_ret2
          exact ⟨HBL.out, .inr ⟨a, p, HP1.out, rfl, HP2.out⟩⟩
end Go.Proofs.YtloffgoenaomkaaDoor.Pl
