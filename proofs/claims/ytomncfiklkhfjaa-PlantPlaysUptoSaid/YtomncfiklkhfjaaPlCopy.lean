/- 'Clone' of a plant. -/
import Derived.Test.YtomncfiklkhfjaaFold8
import Derived.Maps.Ext
import Derived.Maps.RangeWalk
namespace Go.Proofs.Ytomncfiklkhfjaa.Pl
open Go Go.RowKit Mem
theorem secR_inv2 (v : Value) (z : DataW Unit × List MemPlace) (h : secR v = some z) : ∃ bs : List UInt8, v = .agg (cellsOf bs) := by
  obtain ⟨bs, _, e, _⟩ := secR_inv h
  exact ⟨bs, e⟩
/-- A map has as many entries as it reads. -/
theorem owns_bound {w w' : World} {b b' n n' : Nat} {D : DataW Unit} (h : w.ownsMap Try.prog 3 secR b n D) (h' : w'.ownsMap Try.prog 3 secR b' n' D) : w'.ownsMap Try.prog 3 secR b' n D := by
  obtain ⟨es, c, hb, F, hs, hD⟩ := h
  obtain ⟨es', c', hb', F', hs', hD'⟩ := h'
  refine ⟨es', c', hb', F', ?_, hD'⟩
  have e := hD.symm.trans hD'
  injection e with e
  have := congrArg List.length e
  rw [length_sorted, length_sorted] at this
  simp at this
  omega
theorem wrs_one (ws : List Wr) : ∀ u ∈ (ws.map wrRow).flatten, u.oneCell' = true := fun u hu => by
  obtain ⟨r, hr, hu⟩ := List.mem_flatten.1 hu
  obtain ⟨x, _, rfl⟩ := List.mem_map.1 hr
  exact wrRow_one x u hu
theorem devs_one (wc : Nat → Nat) : ∀ (i : Nat) (ds : List Dev) (ms : List Nat), ∀ u ∈ (devRows wc i ds ms).flatten, u.oneCell' = true
  | i, [], ms, u, h => by simp [devRows] at h
  | i, d :: ds, [], u, h => by simp [devRows] at h
  | i, d :: ds, m :: ms, u, h => by
    simp only [devRows, List.flatten_cons, List.mem_append] at h
    rcases h with h | h
    · simp [devRow] at h
      rcases h with rfl | rfl | rfl | rfl | rfl <;> rfl
    · exact devs_one wc (i + 1) ds ms u h
theorem devRows_ms (wc : Nat → Nat) : ∀ (i : Nat) (ds : List Dev) (ms : List Nat) (k h : Nat) (d : Dev), ds[k]? = some d → k < ms.length → devRows wc i ds (ms.set k h) = (devRows wc i ds ms).set k (devRow d h (wc (i + k)))
  | i, [], ms, k, h, d, hd, _ => by simp at hd
  | i, d0 :: ds, [], k, h, d, _, hk => by simp at hk
  | i, d0 :: ds, m0 :: ms, 0, h, d, hd, _ => by
    simp at hd
    subst hd
    simp [devRows]
  | i, d0 :: ds, m0 :: ms, k + 1, h, d, hd, hk => by
    simp at hd hk
    simp only [List.set_cons_succ, devRows]
    rw [devRows_ms wc (i + 1) ds ms k h d hd hk, show i + 1 + k = i + (k + 1) by omega]
/-- What holds at the head of a round. -/
def CloneR (w : World) (p : PM) (b : Nat) (D T V W : Value) (ms : List Nat) (iv : Value) (wr : World) : Prop :=
  ∃ (k : Nat) (ms' : List Nat), k ≤ p.devs.length ∧ iv = .int .i64 (k : Int) ∧ ms'.length = k ∧ ms'.Nodup ∧ (∀ m ∈ ms', w.heap.size ≤ m) ∧ (∀ (i : Nat) (d : Dev) (m : Nat), p.devs[i]? = some d → ms'[i]? = some m → SecMap wr m d.at_) ∧
    Vec wr (New w wr) 97 5 V p.devs.length (devRows (wcOf p) 0 p.devs (ms' ++ ms.drop k)).flatten ∧ Blk wr b 93 (plCells D T V W p).toArray ∧
    Vec wr (New w wr) 3 1 D p.disks.length (p.disks.map natV) ∧ Vec wr (New w wr) 3 1 T p.tapes.length (p.tapes.map natV) ∧ WaitsAt wr (New w wr) W p.waits ∧ Below w.heap.size w wr
/-- All the rounds are done. -/
theorem CloneR.done {w wr : World} {p : PM} {b : Nat} {D T V W : Value} {ms : List Nat} {k : Nat} {ms' : List Nat} (hk : k = p.devs.length) (h1 : ms'.length = k) (h2 : ms'.Nodup) (h3 : ∀ m ∈ ms', w.heap.size ≤ m) (h4 : ∀ (i : Nat) (d : Dev) (m : Nat), p.devs[i]? = some d → ms'[i]? = some m → SecMap wr m d.at_)
    (hml : ms.length = p.devs.length) (hb : w.heap.size ≤ b)
    (h5 : Vec wr (New w wr) 97 5 V p.devs.length (devRows (wcOf p) 0 p.devs (ms' ++ ms.drop k)).flatten) (h6 : Blk wr b 93 (plCells D T V W p).toArray)
    (h7 : Vec wr (New w wr) 3 1 D p.disks.length (p.disks.map natV)) (h8 : Vec wr (New w wr) 3 1 T p.tapes.length (p.tapes.map natV)) (h9 : WaitsAt wr (New w wr) W p.waits) : PlantAt wr (New w wr) b p := by
  rw [List.drop_eq_nil_of_le (by omega), List.append_nil] at h5
  exact ⟨D, T, V, W, h6, ⟨hb, h6.lt⟩, h7, h8, ⟨ms', h5, by omega, h2, fun i d m hd hm => ⟨h4 i d m hd hm, h3 m (List.mem_of_getElem? hm), (h4 i d m hd hm).lt⟩⟩, h9⟩
/-- The state behind a round: wz is the world ahead of the round's last store, h the copy of the device's map. -/
theorem CloneR.next {w wr wz : World} {p : PM} {b g n cap k h m : Nat} {D T W : Value} {ms ms' : List Nat} {d : Dev} (hk : k < p.devs.length) (hd : p.devs[k]? = some d) (hm : ms[k]? = some m) (h1 : ms'.length = k) (h2 : ms'.Nodup) (h3 : ∀ m ∈ ms', w.heap.size ≤ m)
    (h4 : ∀ (i : Nat) (d : Dev) (m : Nat), p.devs[i]? = some d → ms'[i]? = some m → SecMap wr m d.at_)
    (h5 : Vec wr (New w wr) 97 5 (.slice (some ⟨g, 0, none⟩) n cap) p.devs.length (devRows (wcOf p) 0 p.devs (ms' ++ ms.drop k)).flatten) (h6 : Blk wr b 93 (plCells D T (.slice (some ⟨g, 0, none⟩) n cap) W p).toArray)
    (h7 : Vec wr (New w wr) 3 1 D p.disks.length (p.disks.map natV)) (h8 : Vec wr (New w wr) 3 1 T p.tapes.length (p.tapes.map natV)) (h9 : WaitsAt wr (New w wr) W p.waits) (hbl : Below w.heap.size w wr)
    (hbz : Below wr.heap.size wr wz) (hh : wr.heap.size ≤ h) (hs : SecMap wz h d.at_) :
    CloneR w p b D T (.slice (some ⟨g, 0, none⟩) n cap) W ms (.int .i64 ((k : Int) + 1)) (wz.setCell ⟨g, k * 5 + 2, none⟩ (.map (some h))) := by
  obtain ⟨_, _, hv⟩ := Vec.shape h5
  injection hv with _ hn _
  subst hn
  obtain ⟨hFg, cur, hgb⟩ := h5.blockF (by omega)
  have hgz : wz.heap[g]? = some (.cells cur 97 (0, 0)) := (hbz.block g (Array.getElem?_eq_some_iff.1 hgb).1).trans hgb
  have hmono : ∀ q, New w wr q → New w (wz.setCell ⟨g, k * 5 + 2, none⟩ (.map (some h))) q := fun q hq => ⟨hq.1, by have h1 := hq.2; have h2 := hbz.size; simp [World.setCell]; omega⟩
  have hfar : ∀ (q : Nat) (t : TypeId) (cs : Array Value), wr.heap[q]? = some (.cells cs t (0, 0)) → t ≠ 97 → (wz.setCell ⟨g, k * 5 + 2, none⟩ (.map (some h))).heap[q]? = some (.cells cs t (0, 0)) := fun q t cs hq ht =>
    (Below.heap_setCell wz ⟨g, k * 5 + 2, none⟩ _ q (by
      rintro rfl
      rw [hgb] at hq
      injection hq with hq
      injection hq with _ hq
      exact ht hq.symm)).trans ((hbz.block q (Array.getElem?_eq_some_iff.1 hq).1).trans hq)
  have hmap : ∀ (q : Nat) (f : Nat → List UInt8), SecMap wz q f → SecMap (wz.setCell ⟨g, k * 5 + 2, none⟩ (.map (some h))) q f := fun q f hq => by
    obtain ⟨es, c, he⟩ := hq.obj
    exact hq.heap (Below.heap_setCell wz ⟨g, k * 5 + 2, none⟩ _ q (by
      rintro rfl
      rw [hgz] at he
      cases he))
  have hget : (ms' ++ ms.drop k)[k]? = some m := by
    rw [List.getElem?_append_right (by omega), h1, Nat.sub_self, List.getElem?_drop]
    exact hm
  have hset : (ms' ++ ms.drop k).set k h = (ms' ++ [h]) ++ ms.drop (k + 1) := by
    obtain ⟨hkm, hmk⟩ := List.getElem?_eq_some_iff.1 hm
    rw [List.drop_eq_getElem_cons hkm, List.set_append_right _ _ (by omega), h1, Nat.sub_self, List.set_cons_zero, List.append_assoc]
    rfl
  refine ⟨k + 1, ms' ++ [h], hk, by simp, by simp [h1], ?_, ?_, ?_, ?_, hfar b _ _ h6 (by decide), ?_, ?_, ?_, ?_⟩
  · rw [List.nodup_append]
    refine ⟨h2, by simp, fun x hx y hy => ?_⟩
    simp at hy
    subst hy
    obtain ⟨i, hi, rfl⟩ := List.getElem_of_mem hx
    have := (h4 i p.devs[i] ms'[i] (List.getElem?_eq_getElem (by omega)) (List.getElem?_eq_getElem hi)).lt
    omega
  · intro x hx
    rcases List.mem_append.1 hx with hx | hx
    · exact h3 x hx
    · simp at hx
      subst hx
      have := hbl.size
      omega
  · intro i e q he hq
    rcases Nat.lt_or_ge i k with hi | hi
    · rw [List.getElem?_append_left (by omega)] at hq
      have hsm := h4 i e q he hq
      exact hmap q _ (hsm.heap (hbz.block q hsm.lt))
    · rw [List.getElem?_append_right (by omega), h1] at hq
      have e0 : i - k = 0 := by
        rcases Nat.eq_zero_or_pos (i - k) with h | h
        · exact h
        · rw [List.getElem?_eq_none (by simp; omega)] at hq; cases hq
      rw [e0] at hq
      simp at hq
      subst hq
      obtain rfl : i = k := by omega
      rw [hd] at he
      injection he with he
      subst he
      exact hmap _ _ hs
  · have hv2 := (h5.below hbz).set (k * 5 + 2) (.map (some h))
    have hr := devRows_get (wcOf p) 0 p.devs (ms' ++ ms.drop k) k d m hd hget
    rw [flat_set _ (devRows_five _ 0 p.devs _) k 2 _ _ hr (by omega)] at hv2
    have e := devRows_ms (wcOf p) 0 p.devs (ms' ++ ms.drop k) k h d hd (List.getElem?_eq_some_iff.1 hget).1
    rw [hset] at e
    rw [e]
    exact hv2.mono fun q _ hq => hmono q hq
  · exact (h7.heap fun q cs hq => hfar q _ cs hq (by decide)).mono fun q _ hq => hmono q hq
  · exact (h8.heap fun q cs hq => hfar q _ cs hq (by decide)).mono fun q _ hq => hmono q hq
  · exact (Vec.heap h9 fun q cs hq => hfar q _ cs hq (by decide)).mono fun q _ hq => hmono q hq
  · exact ((Mods.of_below (F := fun _ => False) (hbl.trans (hbz.mono hbl.size))).setCell (p := ⟨g, k * 5 + 2, none⟩) (.inr hFg.1) _).below fun _ _ h => h
theorem DevsAt.rowAt {w : World} {F : Nat → Prop} {ds : List Dev} {wc : Nat → Nat} {g n cap : Nat} (h : DevsAt w F (.slice (some ⟨g, 0, none⟩) n cap) ds wc) {j : Nat} {d : Dev} (hd : ds[j]? = some d) :
    ∃ m, SecMap w m d.at_ ∧ w.rangeAt g (j * 5) (devRow d m (wc j)) := by
  obtain ⟨ms, h1, h2, h3, h4⟩ := h
  obtain ⟨_, _, hv⟩ := Vec.shape h1
  injection hv with _ hn _
  subst hn
  have hj : j < ds.length := (List.getElem?_eq_some_iff.1 hd).1
  have hm : ms[j]? = some ms[j] := List.getElem?_eq_getElem (by omega)
  obtain ⟨h5, h6⟩ := h4 j d _ hd hm
  have hr := devRows_get wc 0 ds ms j d _ hd hm
  rw [Nat.zero_add] at hr
  refine ⟨_, h5, Vec.range h1 _ _ fun i u hu => ?_⟩
  have hi : i < 5 := (List.getElem?_eq_some_iff.1 hu).1
  rw [flat_get _ (devRows_five wc 0 ds ms) j i _ hr hi]
  exact hu
/-- The copy of a map under way: h is the new map, r the range's place. -/
def CopyR (wa : World) (m r h : Nat) (D : DataW Unit) (wr : World) : Prop :=
  ∃ (left : Lit → Bool) (cnt nO : Nat) (Dout : DataW Unit), wr.ranges Try.prog 3 secR m r 4096 D left cnt ∧ wr.ownsMap Try.prog 3 secR h nO Dout ∧ nO + cnt ≤ 4096 ∧ Maps.Agree Dout D left ∧ Below h wa wr
theorem owns_heap {w w' : World} {b n : Nat} {D : DataW Unit} (h : w.ownsMap Try.prog 3 secR b n D) (hk : w'.heap[b]? = w.heap[b]?) : w'.ownsMap Try.prog 3 secR b n D := by
  obtain ⟨es, clock, hb, hr⟩ := h
  exact ⟨es, clock, hk.trans hb, hr⟩
theorem owns_size {w : World} {b n : Nat} {D : DataW Unit} (h : w.ownsMap Try.prog 3 secR b n D) : Maps.size D ≤ n := by
  obtain ⟨es, clock, hb, F, hs, hD⟩ := h
  rw [hD, Maps.size_eq, length_sorted]
  simpa using hs
set_option maxRecDepth 100000 in
set_option maxHeartbeats 8000000 in
theorem copy_any {w : World} {F : Nat → Prop} {a : Nat} {p : PM} (h : PlantAt w F a p) (hok : p.Ok) (hlow : p.Low) :
    Calls Try.prog 37 #[.pointer (some ⟨a, 0, none⟩)] w fun e w' => ∃ b, e = .returned (.pointer (some ⟨b, 0, none⟩)) ∧ PlantAt w' (New w w') b p ∧ Below w.heap.size w w' := by
  have HP := Lib.hid h
  have HOK := Lib.hid hok
  have HLOW := Lib.hid hlow
  obtain ⟨D, T, V, W, hp⟩ := h
  obtain ⟨A1, kD, rfl⟩ := hp.disks.shape
  obtain ⟨A2, kT, rfl⟩ := hp.tapes.shape
  obtain ⟨AW, cW, rfl⟩ := Vec.shape hp.waits
  obtain ⟨g, c1, rfl⟩ := hp.devs.form hok.n1
  have HB := Lib.hid hp
  have hal := hp.blk.lt
  have hdn := hok.n12
  clear hok hlow hp
  go_enter Try.func37, Try.ntmps37
  go_wp2_with
    (refine wpList_load_mid rfl 93 (.tmp 10) rfl a 0 rfl (plCells (.slice A1 p.disks.length kD) (.slice A2 p.tapes.length kT) (.slice (some ⟨g, 0, none⟩) p.devs.length c1) (.slice AW p.waits.length cW) p) _ (blk_range HB.out.blk 0 _ (fun j v hv => by rw [Nat.zero_add]; exact hv)) Try.underlying93 rfl (by kernel_rfl) ?_
     go_wp2_with
       (refine wpList_store_all rfl 93 (.tmp 3) (.tmp 11) rfl w.heap.size 93 _ (plCells (.slice A1 p.disks.length kD) (.slice A2 p.tapes.length kT) (.slice (some ⟨g, 0, none⟩) p.devs.length c1) (.slice AW p.waits.length cW) p) rfl rfl (Blk.new w _ _) (by kernel_rfl) (by kernel_rfl) (by intro v hv; simp [plCells] at hv; rcases hv with rfl | rfl | rfl | rfl | rfl | rfl | rfl | rfl <;> rfl) ?_
        intro w2 hb2 hg2 hz2
        have HX2 := Lib.hid hb2
        have HW2 : Hid (Below w.heap.size w w2) := Lib.hid ((below_al' _).grown hg2 (by simp) (fun q hq => by injection hq with hq; omega))
        clear hb2 hg2 hz2))
  have hp2 : ∀ n, PlantB (w2.drewN n) F a p (wcOf p) (.slice A1 p.disks.length kD) (.slice A2 p.tapes.length kT) (.slice (some ⟨g, 0, none⟩) p.devs.length c1) (.slice AW p.waits.length cW) := fun n => (HB.out.mods (Mods.of_below (F := fun _ => False) HW2.out) fun g hg _ => ⟨hg, fun x => x⟩).drewN n
  have HP2 := Lib.hid hp2
  have k2 := (hp2 0).blk.cell 2
  have k3 := (hp2 0).blk.cell 3
  have j2 : w2.cell? ⟨a, 2, none⟩ = some (.slice (some ⟨g, 0, none⟩) p.devs.length c1) := k2
  have j3 : w2.cell? ⟨a, 3, none⟩ = some (.slice AW p.waits.length cW) := k3
  clear hp2 k2 k3
  refine Ord.region_ord [1, 6] [0, 2, 3, 4, 5, 7, 8, 9, 10, 1, 6, 11, 12, 13, 14, 15, 16, 17] (by kernel_rfl) (by kernel_rfl) (by kernel_rfl) (by kernel_rfl) (Ord.ord_run [0, 2, 3, 4, 5, 7, 8, 9, 10] [_, _, _, _, _, _, _, _, _] rfl (by kernel_rfl) ?_)
  go_wp2_with fail
  refine Ord.nx_ord (Ord.ord_one rfl ?_)
  go_wp2_with fail
  refine (shape_any (w := w2.drew) ⟨_, _, _, _, HP2.out 1⟩ HOK.out).mono ?_
  rintro e w3 ⟨D', T', rfl, hd3, ht3, hb3⟩
  obtain ⟨AD, cD, rfl⟩ := hd3.shape
  obtain ⟨AT, cT, rfl⟩ := ht3.shape
  have hp3 := (HP2.out 1).mods (w' := w3) (Mods.of_below (F := fun _ => False) hb3) fun g hg _ => ⟨hg, fun x => x⟩
  have HW3 : Hid (Below w.heap.size w w3) := Lib.hid ((HW2.out.drew).trans (hb3.mono HW2.out.size))
  have HX3 : Hid (Blk w3 w.heap.size _ _) := Lib.hid ((HX2.out.drew).below_ hb3)
  have HD3 := Lib.hid hd3
  have HT3 := Lib.hid ht3
  have HB3 := Lib.hid hb3
  have HP3 := Lib.hid hp3
  have hs23 := HW2.out.size
  clear hd3 ht3 hb3 hp3
  go_wp2_with fail
  refine Ord.nx_and HB3.out (Ord.ord_one rfl ?_)
  go_wp2_with fail
  refine (cloneWr_any HP3.out.waits (wrs_one _) HLOW.out.waits).mono ?_
  rintro e w4 ⟨W', rfl, hw4, hb4⟩
  obtain ⟨AW', cW', rfl⟩ := hw4.shape
  have hp4 := HP3.out.mods (w' := w4) (Mods.of_below (F := fun _ => False) hb4) fun g hg _ => ⟨hg, fun x => x⟩
  have HW4 : Hid (Below w.heap.size w w4) := Lib.hid (HW3.out.trans (hb4.mono HW3.out.size))
  have HX4 : Hid (Blk w4 w.heap.size _ _) := Lib.hid (HX3.out.below_ hb4)
  have HD4 := Lib.hid (HD3.out.below hb4)
  have HT4 := Lib.hid (HT3.out.below hb4)
  have HW'4 := Lib.hid hw4
  have HB4 := Lib.hid hb4
  have HP4 := Lib.hid hp4
  have hs34 := HB4.out.size
  clear hw4 hb4 hp4 HD3 HT3
  go_wp2_with fail
  refine Ord.nx_and HB4.out (Ord.ord_all [_, _, _, _, _, _, _] rfl (by kernel_rfl) ?_)
  go_wp2_with fail
  obtain ⟨ms, hv4, hms, hnd, hmm⟩ := HP4.out.devs
  refine (cloneDev_any hv4 (devs_one _ _ _ _) (by omega)).mono ?_
  rintro e w5 ⟨V', rfl, hv5, hb5⟩
  obtain ⟨AV, cV, rfl⟩ := hv5.shape
  have HW5 : Hid (Below w.heap.size w w5) := Lib.hid (HW4.out.trans (hb5.mono HW4.out.size))
  have HX5 : Hid (Blk w5 w.heap.size _ _) := Lib.hid (HX4.out.below_ hb5)
  have HD5 := Lib.hid (HD4.out.below hb5)
  have HT5 := Lib.hid (HT4.out.below hb5)
  have HW'5 := Lib.hid (HW'4.out.below hb5)
  have HV5 := Lib.hid hv5
  have HP5 := Lib.hid (HP4.out.mods (w' := w5) (Mods.of_below (F := fun _ => False) hb5) fun g hg _ => ⟨hg, fun x => x⟩)
  have HMS := Lib.hid hms
  have HND := Lib.hid hnd
  have HMM := Lib.hid fun i d m hd hm => (hmm i d m hd hm).1.heap (w' := w5) (hb5.block m (hmm i d m hd hm).1.lt)
  have q0 := (HX5.out.cell 0).trans (show _ = some (.slice A1 p.disks.length kD) from rfl)
  have q1 := (HX5.out.cell 1).trans (show _ = some (.slice A2 p.tapes.length kT) from rfl)
  have q2 := (HX5.out.cell 2).trans (show _ = some (.slice (some ⟨g, 0, none⟩) p.devs.length c1) from rfl)
  have q3 := (HX5.out.cell 3).trans (show _ = some (.slice AW p.waits.length cW) from rfl)
  have f0 := HX5.out.frozen 0
  have f1 := HX5.out.frozen 1
  have f2 := HX5.out.frozen 2
  have f3 := HX5.out.frozen 3
  have hs45 := hb5.size
  clear hv5 hb5 hms hnd hmm hv4 HD4 HT4 HW'4 HX4 HX3 HX2 j2 j3
  go_wp2_with fail
  refine Ord.nx_end ?_
  have hst : ∃ w6, w6 = ((((w5.setCell ⟨w.heap.size, 0, none⟩ (.slice AD p.disks.length cD)).setCell ⟨w.heap.size, 1, none⟩ (.slice AT p.tapes.length cT)).setCell ⟨w.heap.size, 3, none⟩ (.slice AW' p.waits.length cW')).setCell ⟨w.heap.size, 2, none⟩ (.slice AV p.devs.length cV)) := ⟨_, rfl⟩
  obtain ⟨w6, h6⟩ := hst
  have hkeep : ∀ q, q ≠ w.heap.size → w6.heap[q]? = w5.heap[q]? := fun q hq => by
    rw [h6]
    exact (Below.heap_setCell _ _ _ q hq).trans ((Below.heap_setCell _ _ _ q hq).trans ((Below.heap_setCell _ _ _ q hq).trans (Below.heap_setCell _ _ _ q hq)))
  have hsz6 : w6.heap.size = w5.heap.size := by rw [h6]; simp [World.setCell]
  have hb6 : Blk w6 w.heap.size 93 (plCells (.slice AD p.disks.length cD) (.slice AT p.tapes.length cT) (.slice AV p.devs.length cV) (.slice AW' p.waits.length cW') p).toArray := by
    rw [h6]
    have := (((HX5.out.set_ 0 (.slice AD p.disks.length cD)).set_ 1 (.slice AT p.tapes.length cT)).set_ 3 (.slice AW' p.waits.length cW')).set_ 2 (.slice AV p.devs.length cV)
    simpa [plCells] using this
  have hbl6 : Below w.heap.size w w6 := by
    rw [h6]
    exact (((((Mods.of_below (F := fun _ => False) HW5.out).setCell (p := ⟨w.heap.size, 0, none⟩) (.inr (Nat.le_refl _)) _).setCell (p := ⟨w.heap.size, 1, none⟩) (.inr (Nat.le_refl _)) _).setCell (p := ⟨w.heap.size, 3, none⟩) (.inr (Nat.le_refl _)) _).setCell (p := ⟨w.heap.size, 2, none⟩) (.inr (Nat.le_refl _)) _).below fun _ _ h => h
  have hne : ∀ (q : Nat) (t : TypeId) (cs : Array Value), w5.heap[q]? = some (.cells cs t (0, 0)) → t ≠ 93 → w6.heap[q]? = some (.cells cs t (0, 0)) := fun q t cs hq ht => (hkeep q (by
    rintro rfl
    have := HX5.out
    unfold Blk at this
    rw [this] at hq
    injection hq with hq
    injection hq with _ hq
    exact ht hq.symm)).trans hq
  have hnew : ∀ (wx : World), w.heap.size ≤ wx.heap.size → ∀ q, wx.heap.size ≤ q ∧ q < w6.heap.size → New w w6 q := fun wx hx q hq => ⟨Nat.le_trans hx hq.1, hq.2⟩
  have hw2s : w.heap.size ≤ w2.drew.heap.size := hs23
  have HST : Hid (CloneR w p w.heap.size (.slice AD p.disks.length cD) (.slice AT p.tapes.length cT) (.slice AV p.devs.length cV) (.slice AW' p.waits.length cW') ms (.int .i64 0) w6) := Lib.hid (by
    refine ⟨0, [], Nat.zero_le _, rfl, rfl, List.nodup_nil, by simp, by simp, ?_, hb6, ?_, ?_, ?_, hbl6⟩
    · exact (HV5.out.heap fun q cs hq => hne q _ cs hq (by decide)).mono fun q hq h => ⟨Nat.le_trans HW4.out.size h.1, hq⟩
    · exact (HD5.out.heap fun q cs hq => hne q _ cs hq (by decide)).mono fun q hq h => ⟨Nat.le_trans hw2s h.1, hq⟩
    · exact (HT5.out.heap fun q cs hq => hne q _ cs hq (by decide)).mono fun q hq h => ⟨Nat.le_trans hw2s h.1, hq⟩
    · exact (Vec.heap HW'5.out fun q cs hq => hne q _ cs hq (by decide)).mono fun q hq h => ⟨Nat.le_trans HW3.out.size h.1, hq⟩)
  have hp6 := (HB.out.mods (Mods.of_below (F := fun _ => False) hbl6) fun g hg _ => ⟨hg, fun x => x⟩).blk.cell 2
  have j2 : w6.cell? ⟨a, 2, none⟩ = some (.slice (some ⟨g, 0, none⟩) p.devs.length c1) := hp6
  rw [← h6]
  clear hp6 h6 hkeep hsz6 hb6 hbl6 hne hnew hw2s q0 q1 q2 q3 f0 f1 f2 f3 HX5 HD5 HT5 HW'5 HV5 HP5 HMM HB3 HP3 HB4 HP4 HP2 HW2 HW3 HW4 HW5 hs23 hs34 hs45
  generalize hbb : w.heap.size = b at *
  have HBB := Lib.hid hbb
  go_wp2_with fail
  go_loopw [32] (fun iv wr => CloneR w p b (.slice AD p.disks.length cD) (.slice AT p.tapes.length cT) (.slice AV p.devs.length cV) (.slice AW' p.waits.length cW') ms iv wr) (fun iv _ => p.devs.length - (intOf iv).toNat)
  case atStart => exact HST.out
  case round =>
    obtain ⟨k, ms', hk, rfl, hl, hnd', hge, hsm, hv, hpb, hd7, ht7, hw7, hbl⟩ := hrel
    have HL := Lib.hid hl
    have HND' := Lib.hid hnd'
    have HGE := Lib.hid hge
    have HSM := Lib.hid hsm
    have HV := Lib.hid hv
    have HPB := Lib.hid hpb
    have HD7 := Lib.hid hd7
    have HT7 := Lib.hid ht7
    have HW7 := Lib.hid hw7
    have HBL := Lib.hid hbl
    clear hl hnd' hge hsm hv hpb hd7 ht7 hw7 hbl
    by_cases hlt : k < p.devs.length
    · obtain ⟨g', _, _, hvf, _⟩ := Vec.form HV.out (by omega)
      injection hvf with hA _ hcp
      subst hA
      clear hcp
      obtain ⟨d, hd⟩ : ∃ d, p.devs[k]? = some d := ⟨_, List.getElem?_eq_getElem hlt⟩
      obtain ⟨m, hm⟩ : ∃ m, ms[k]? = some m := ⟨_, List.getElem?_eq_getElem (by rw [HMS.out]; exact hlt)⟩
      obtain ⟨m0, ⟨D0, hown0, hkeys0, hat0⟩, hrow⟩ := (HB.out.devs.mods (Mods.of_below (F := fun _ => False) HBL.out) fun g hg _ => ⟨hg, fun x => x⟩).rowAt hd
      have HD := Lib.hid hd
      have HM := Lib.hid hm
      have HO := Lib.hid hown0
      have HK0 := Lib.hid hkeys0
      have HA0 := Lib.hid hat0
      have HROW := Lib.hid hrow
      have hmm2 := @run_makeMap Try.prog
      have hkI : (k : Int) < (p.devs.length : Int) := by omega
      clear hd hm hown0 hkeys0 hat0 hrow
      go_wp2_with
        (refine wpList_load_mid rfl 97 (.tmp 35) rfl g (k * 5) rfl (devRow d m0 (wcOf p k)) _ HROW.out Try.underlying97 rfl (by kernel_rfl) ?_
         go_wp2_with
           (refine wpList_store_all rfl 97 (.tmp 5) (.tmp 36) rfl wr.heap.size 97 _ (devRow d m0 (wcOf p k)) rfl rfl (Blk.new wr _ _) (by kernel_rfl) (by kernel_rfl) (by intro v hv; simp [devRow] at hv; rcases hv with rfl | rfl | rfl | rfl | rfl <;> rfl) ?_
            intro w3 hb3 hg3 hz3
            have e2 := ((hb3.alloc (.map #[] 0)).cell 2).trans (show _ = some (.map (some m0)) from rfl)
            have HX3 := Lib.hid hb3
            have HZ3 : Hid (w3.heap.size = wr.heap.size + 1) := Lib.hid (hz3.trans (by simp))
            have HW3 : Hid (Below wr.heap.size wr w3) := Lib.hid ((below_al' _).grown hg3 (by simp) (fun q hq => by injection hq with hq; omega))
            have HO3 : Hid ((w3.alloc (.map #[] 0)).ownsMap Try.prog 3 secR m0 4096 D0) := Lib.hid (owns_heap HO.out ((Below.heap_alloc w3 _ m0 (Nat.lt_of_lt_of_le HO.out.lt HW3.out.size)).trans (HW3.out.block m0 HO.out.lt)))
            clear hb3 hg3 hz3
            go_wp2_with
              (refine wpList_range_own _ rfl (.tmp 39) 95 rfl 3 102 keyed Try.underlying95 secR m0 4096 D0 rfl HO3.out ?_
               intro w4 hrg4 hg4 hs4
               have HRG4 := Lib.hid hrg4
               have HG4 := Lib.hid hg4
               clear hrg4 hg4 hs4 e2)))
      have HST4 : Hid (CopyR w3 m0 (w3.alloc (.map #[] 0)).heap.size w3.heap.size D0 w4) := Lib.hid
        ⟨_, _, 0, .map [], HRG4.out, (World.ownsMap_made w3 _ _ _).kept HG4.out (by simp), by have := owns_size HO.out; omega, Maps.agree_start D0, ((Below.refl w3.heap.size w3).alloc (Nat.le_refl _) _).grown HG4.out (by simp) (fun q hq => by cases hq)⟩
      have hr4 : (w3.alloc (.map #[] 0)).heap.size = w3.heap.size + 1 := by simp
      rw [hr4] at HST4
      clear HRG4 HG4 HO3
      try go_frame
      try rw [hr4]
      go_loopw [7] (fun _ wr2 => CopyR w3 m0 (w3.heap.size + 1) w3.heap.size D0 wr2) (fun _ wr2 => wr2.rangeLeft m0 (w3.heap.size + 1))
      case atStart => exact HST4.out
      case round =>
        obtain ⟨left, cnt, nO, Dout, hrg, hout, hnO, hAg, hbl3⟩ := hrel
        have HRG := Lib.hid hrg
        have HOUT := Lib.hid hout
        have HAG := Lib.hid hAg
        have HBL3 := Lib.hid hbl3
        clear hrg hout hAg hbl3
        go_wp2_with (first
          | (at_next; refine wpList_next_ranges _ rfl (.tmp 40) rfl 3 keyed secR (fun x : Int => Value.int .i64 x) (fun bs : List UInt8 => Value.agg (cellsOf bs)) (fun key kl h => by obtain ⟨x, e, _⟩ := Maps.keyOf_int_inv Try.underlying3 h; exact ⟨x, e⟩) secR_inv2 m0 (w3.heap.size + 1) 4096 D0 left cnt rfl HRG.out ?_ ?_)
          | go_in)
        · intro hc0 hl0
          have he := Maps.agree_end HAG.out hl0 (HOUT.out.canon keyed) (HO.out.canon keyed)
          have hsec : SecMap wr w3.heap.size d.at_ := ⟨D0, owns_bound HO.out (by rw [he] at HOUT; exact HOUT.out), HK0.out, HA0.out⟩
          have hbz := HW3.out.trans (HBL3.out.mono HW3.out.size)
          have q2 := ((HPB.out.below_ hbz).cell 2).trans (show _ = some (.slice (some ⟨g', 0, none⟩) p.devs.length cV) from rfl)
          have hvz := HV.out.below hbz
          have qf := hvz.free (by omega) (k * 5 + 2)
          obtain ⟨u, qc⟩ : ∃ u, wr.cell? ⟨g', k * 5 + 2, none⟩ = some u := by
            have hlen := hvz.len
            exact ⟨_, hvz.at_ (List.getElem?_eq_getElem (by rw [hlen]; omega))⟩
          have HNEXT := Lib.hid (CloneR.next hlt HD.out HM.out HL.out HND'.out HGE.out HSM.out HV.out HPB.out HD7.out HT7.out HW7.out HBL.out hbz HW3.out.size hsec)
          clear hsec hbz hvz he hl0
          go_wp2_with fail
          go_roundw
          case rel => exact HNEXT.out
          case measure => simp [intOf]; omega
        · intro x bs kl y ps w5 cnt5 hkey hlk hR hat5 hrg5 hlt5 hg5 hs5 hen
          obtain ⟨bs', h64, ebs, ey⟩ := secR_inv hR
          injection ebs with ebs
          obtain rfl := cellsOf_inj ebs
          have hout5 := HOUT.out.kept hg5 (by simp)
          have hn2 : nO < maxLen := by unfold maxLen; omega
          have hm0 := HO.out.lt
          have hs35 := HBL3.out.size
          have hs13 := HW3.out.size
          have hlo := HOUT.out.lt
          have HS5 := Lib.hid hs5
          have hlr := HRG.out.lt
          have HOUT5 := Lib.hid hout5
          have HRG5 := Lib.hid hrg5
          have HG5 := Lib.hid hg5
          have HKEY := Lib.hid hkey
          have HR5 := Lib.hid hR
          have HAT5 := Lib.hid hat5
          have H64 := Lib.hid h64
          have HEY := Lib.hid ey
          have HLT5 := Lib.hid hlt5
          clear hout5 hrg5 hg5 hkey hR hat5 h64 ey hlt5 hlk ebs
          go_wp2_with
            (refine wpList_store_all rfl 102 (.tmp 8) (.tmp 45) rfl wr.heap.size 102 _ (bs.map B8) rfl rfl (Blk.new_at _ _ HS5.out _ _) (by rw [List.length_map, H64.out]; rfl) (by rw [List.length_map, H64.out]; kernel_rfl) (B8_one _) ?_
             intro w6 hb6 hg6 hz6
             have HX6 := Lib.hid hb6
             have HG6 := Lib.hid hg6
             have HOUT6 := Lib.hid ((HOUT5.out.alloc _).kept hg6 (by intro e; injection e with e; omega))
             have HRG6 := Lib.hid ((HRG5.out.alloc _).kept hg6 (by intro e; injection e with e; omega) (by intro e; injection e with e; omega))
             clear hb6 hg6 hz6 hen
             go_wp2_with
               (refine wpList_load_mid rfl 102 (.tmp 8) rfl wr.heap.size 0 rfl (bs.map B8) _ (blk_range HX6.out 0 _ (fun j v hv => by rw [Nat.zero_add]; exact hv)) secTy rfl (by rw [List.length_map, H64.out]; kernel_rfl) ?_
                go_wp2_with
                  (refine wpList_mapUpdate_own _ rfl (.tmp 46) (.tmp 47) (.tmp 48) 95 rfl 3 102 keyed Try.underlying95 secR w3.heap.size nO Dout rfl HOUT6.out hn2 _ _ kl rfl rfl HKEY.out y ps HR5.out ?_
                   intro w7 hout7 hg7
                   have HOUT7 := Lib.hid hout7
                   have HG7 := Lib.hid hg7
                   clear hout7 hg7)))
          try go_frame
          have hrg7 := HRG6.out.kept HG7.out (by intro e; injection e with e; omega) (by intro e; injection e with e; omega)
          have HRG7 := Lib.hid hrg7
          clear hrg7
          go_roundw
          case rel =>
            refine ⟨_, cnt5, nO + 1, _, HRG7.out, HOUT7.out, ?_, Maps.agree_step HAG.out HOUT.out.isMap (keyed.key HKEY.out) HAT5.out, ?_⟩
            · have := HLT5.out
              omega
            · exact (((HBL3.out.grown HG5.out hs35 (fun q hq => by injection hq with hq; omega)).alloc (by omega) _).grown HG6.out (by simp; omega) (fun q hq => by injection hq with hq; omega)).grown HG7.out (by have := HG6.out.size; simp at this; omega) (fun q hq => by injection hq with hq; omega)
          case measure => rw [HRG7.out.left_eq, HRG.out.left_eq]; exact HLT5.out
    · obtain rfl : k = p.devs.length := by omega
      have HEND := Lib.hid (CloneR.done rfl HL.out HND'.out HGE.out HSM.out HMS.out (Nat.le_of_eq HBB.out) HV.out HPB.out HD7.out HT7.out HW7.out)
      go_wp2_with fail
      go_ret
      exact ⟨b, rfl, HEND.out, HBL.out⟩
end Go.Proofs.Ytomncfiklkhfjaa.Pl
