/- 'Rot' of a plant. -/
import Derived.Test.YtloffgoenaomkaaDoorFold5
import Derived.Test.YtloffgoenaomkaaDoorFold8
namespace Go.Proofs.YtloffgoenaomkaaDoor.Pl
open Go Go.RowKit Mem
/-- A number as a byte. -/
def byteOf (n : Int) : UInt8 := UInt8.ofNat (n % 256).toNat
theorem V8_byteOf (n : Int) : V8 (byteOf n) = n % 256 := by
  unfold V8 byteOf
  have h : (n % 256).toNat < 256 := by omega
  simp [UInt8.toNat_ofNat', Nat.mod_eq_of_lt h]
  omega
/-- A sector of a device is another. -/
theorem DevsAt.setSec {w w2 : World} {F : Nat → Prop} {g cap j m k : Nat} {ds : List Dev} {wc : Nat → Nat} {d : Dev} {ms : List Nat} {b : List UInt8} (hv : Vec w2 F 86 5 (.slice (some ⟨g, 0, none⟩) ds.length cap) ds.length (devRows wc 0 ds ms).flatten)
    (h2 : ms.length = ds.length) (h3 : ms.Nodup) (h4 : ∀ (i : Nat) (d : Dev) (m : Nat), ds[i]? = some d → ms[i]? = some m → SecMap w m d.at_ ∧ F m) (hd : ds[j]? = some d) (hm : ms[j]? = some m) (hk : k < d.has.length)
    (hs : SecMap w2 m fun i => if i = k then b else d.at_ i) (hold : ∀ q, q < w.heap.size → q ≠ m → w2.heap[q]? = w.heap[q]?) :
    DevsAt w2 F (.slice (some ⟨g, 0, none⟩) ds.length cap) (ds.set j { d with has := d.has.set k b }) wc := by
  have hj := (List.getElem?_eq_some_iff.1 hd).1
  have hr5 : devRows wc 0 (ds.set j { d with has := d.has.set k b }) ms = (devRows wc 0 ds ms).set j (devRow { d with has := d.has.set k b } m (wc j)) := by
    have := devRows_set wc wc { d with has := d.has.set k b } 0 ds ms j m hj hm (fun _ _ => rfl)
    rwa [Nat.zero_add] at this
  have hr := devRows_get wc 0 ds ms j d _ hd hm
  rw [Nat.zero_add] at hr
  refine ⟨ms, ?_, by simpa using h2, h3, fun i d2 m2 hd2 hm2 => ?_⟩
  · rw [hr5, show devRow { d with has := d.has.set k b } m (wc j) = devRow d m (wc j) by simp [devRow], list_set_self hr, List.length_set]
    exact hv
  · by_cases hi : i = j
    · subst hi
      simp [hj] at hd2
      subst hd2
      have : m2 = m := Option.some.inj (hm2.symm.trans hm)
      subst this
      refine ⟨?_, (h4 i d m2 hd hm).2⟩
      have e : Dev.at_ { d with has := d.has.set k b } = fun i => if i = k then b else d.at_ i := by
        funext i
        unfold Dev.at_
        by_cases hik : i = k
        · subst hik
          simp [hk]
        · rw [if_neg hik]
          simp [List.getElem?_set_ne (Ne.symm hik)]
      rw [e]
      exact hs
    · rw [List.getElem?_set_ne (Ne.symm hi)] at hd2
      obtain ⟨h5, h6⟩ := h4 i d2 m2 hd2 hm2
      have hne : m2 ≠ m := by
        rintro rfl
        obtain ⟨hi1, e1⟩ := List.getElem?_eq_some_iff.1 hm2
        obtain ⟨hi2, e2⟩ := List.getElem?_eq_some_iff.1 hm
        exact hi ((List.getElem_inj h3).1 (e1.trans e2.symm))
      exact ⟨h5.heap (hold m2 h5.lt hne), h6⟩
set_option maxRecDepth 100000 in
set_option maxHeartbeats 8000000 in
theorem rot_any {w : World} {F : Nat → Prop} {a : Nat} {p : PM} (h : PlantAt w F a p) (hok : p.Ok) (i k at_ n : Int) :
    Calls Tryd.prog 30 #[.pointer (some ⟨a, 0, none⟩), .int .i64 i, .int .i64 k, .int .i64 at_, .int .i64 n] w fun e w' => e = .returned (.bool (p.rot i k at_ (byteOf n)).2) ∧ PlantAt w' (Grow F w w') a (p.rot i k at_ (byteOf n)).1 ∧ Mods w.heap.size F w w' := by
  have HP := Lib.hid h
  obtain ⟨D, T, V, W, hp⟩ := h
  have HB := Lib.hid hp
  rcases num_cases p i with ⟨hn, hi⟩ | ⟨j, d, rfl, hn, hj, hd⟩
  · have e : p.rot i k at_ (byteOf n) = (p, false) := by unfold PM.rot; rw [hn]
    rw [e]
    clear hp hn e
    go_enter Tryd.func30, Tryd.ntmps30
    go_wp2_with fail
    refine (dev_none HB.out i hi).mono ?_
    rintro e w1 ⟨rfl, rfl⟩
    go_wp2_with fail
    go_ret
    exact ⟨rfl, HP.out.same⟩
  · have HRE : Hid (p.rot (j : Int) k at_ (byteOf n) = if 0 ≤ k ∧ 0 ≤ at_ ∧ at_ < 64 ∧ k < (d.has.length : Int) then ({ p with devs := p.devs.set j { d with has := d.has.set k.toNat ((d.at_ k.toNat).set at_.toNat (((d.at_ k.toNat).getD at_.toNat 0) ^^^ byteOf n)) } }, true) else (p, false)) := Lib.hid (by
      unfold PM.rot
      rw [hn]
      simp only [hd])
    obtain ⟨g, c1, rfl⟩ := hp.devs.form (by omega)
    obtain ⟨m, hFm, hsec, k0, k1, k2, k3, k4⟩ := hp.devs.cells hd
    have HSEC := Lib.hid hsec
    have HFm := Lib.hid hFm
    have HFA : Hid (¬ (0 ≤ k ∧ 0 ≤ at_ ∧ at_ < 64 ∧ k < (d.has.length : Int)) → p.rot (j : Int) k at_ (byteOf n) = (p, false)) := Lib.hid fun h => by rw [HRE.out, if_neg h]
    have hmost := (hok.most j d hd).2.2
    have HDI := Lib.hid (hok.disk j d hd)
    have HRO := Lib.hid (hok.room j d hd)
    have HD := Lib.hid hd
    clear hp hn hd hsec hFm k4
    by_cases hk0 : k < 0
    · rw [HFA.out (by omega)]
      clear k0 k1 k2 k3
      go_enter Tryd.func30, Tryd.ntmps30
      go_wp2_with fail
      refine (dev_some HB.out j hj).mono ?_
      rintro e w1 ⟨rfl, rfl⟩
      go_wp2_with fail
      go_ret
      exact ⟨rfl, HP.out.same⟩
    · by_cases ha0 : at_ < 0
      · rw [HFA.out (by omega)]
        clear k0 k1 k2 k3
        go_enter Tryd.func30, Tryd.ntmps30
        go_wp2_with fail
        refine (dev_some HB.out j hj).mono ?_
        rintro e w1 ⟨rfl, rfl⟩
        go_wp2_with fail
        go_ret
        exact ⟨rfl, HP.out.same⟩
      · by_cases ha6 : 64 ≤ at_
        · rw [HFA.out (by omega)]
          have hab : decide (64 ≤ at_) = true := decide_eq_true ha6
          clear k0 k1 k2 k3
          go_enter Tryd.func30, Tryd.ntmps30
          go_wp2_with fail
          refine (dev_some HB.out j hj).mono ?_
          rintro e w1 ⟨rfl, rfl⟩
          go_wp2_with fail
          go_ret
          exact ⟨rfl, HP.out.same⟩
        · have hab : decide (64 ≤ at_) = false := decide_eq_false ha6
          obtain ⟨kn, rfl⟩ := Int.eq_ofNat_of_zero_le (show 0 ≤ k by omega)
          obtain ⟨an, rfl⟩ := Int.eq_ofNat_of_zero_le (show 0 ≤ at_ by omega)
          by_cases hkl : d.has.length ≤ kn
          · rw [HFA.out (by omega)]
            cases ht : d.tape with
            | true =>
              rw [ht] at k0 k3
              simp only [if_true] at k3
              have hkb : decide ((d.has.length : Int) ≤ (kn : Int)) = true := decide_eq_true (by omega)
              have hkI : (d.has.length : Int) ≤ (kn : Int) := by omega
              clear k1 k2
              go_enter Tryd.func30, Tryd.ntmps30
              go_wp2_with fail
              refine (dev_some HB.out j hj).mono ?_
              rintro e w1 ⟨rfl, rfl⟩
              go_wp2_with fail
              go_ret
              exact ⟨rfl, HP.out.same⟩
            | false =>
              have hm := HDI.out ht
              rw [ht] at k0 k3
              have hkb : decide ((d.most : Int) ≤ (kn : Int)) = true := decide_eq_true (by omega)
              have hkI : (d.most : Int) ≤ (kn : Int) := by omega
              clear k2 k3 hm
              go_enter Tryd.func30, Tryd.ntmps30
              go_wp2_with fail
              refine (dev_some HB.out j hj).mono ?_
              rintro e w1 ⟨rfl, rfl⟩
              go_wp2_with fail
              go_ret
              exact ⟨rfl, HP.out.same⟩
          · have hkl' : ¬ (d.has.length : Int) ≤ (kn : Int) := by omega
            have hkl : kn < d.has.length := by omega
            have han : an < 64 := by omega
            have hanI : (an : Int) < 64 := by omega
            have HR2 : Hid (p.rot (j : Int) (kn : Int) (an : Int) (byteOf n) = ({ p with devs := p.devs.set j { d with has := d.has.set kn ((d.at_ kn).set an (((d.at_ kn).getD an 0) ^^^ byteOf n)) } }, true)) := Lib.hid (by rw [HRE.out, if_pos (by omega)]; rfl)
            have hlen : d.has.length ≤ 4096 := by
              cases ht : d.tape with
              | true => have := HRO.out ht; omega
              | false => have := HDI.out ht; omega
            have hpl4 : kn < 4096 := by omega
            have hpl : kn < 9223372036854775808 := by omega
            have hlk := (HSEC.out.run_lookup hpl).1
            have HLN := Lib.hid (HSEC.out.run_lookup hpl).2
            have HC2 := Lib.hid k2
            have hknI : (kn : Int) < (d.has.length : Int) := by omega
            cases ht : d.tape with
            | true =>
              rw [ht] at k0 k3
              simp only [if_true] at k3
              have hkb : decide ((d.has.length : Int) ≤ (kn : Int)) = false := decide_eq_false hkl'
              go_enter Tryd.func30, Tryd.ntmps30
              go_wp2_with fail
              refine (dev_some HB.out j hj).mono ?_
              rintro e w1 ⟨rfl, rfl⟩
              go_wp2_with
                (refine wpList_store_all rfl 115 (.tmp 12) (.tmp 62) rfl w.heap.size 115 _ ((d.at_ kn).map B8) rfl rfl (Blk.new _ _ _) (by rw [List.length_map, HLN.out]; rfl) (by rw [List.length_map, HLN.out]; kernel_rfl) (B8_one _) ?_
                 intro w2 hb2 hg2 hz2
                 have hbl2 : Below w.heap.size w w2 := (below_al' _).grown hg2 (by simp) (fun q hq => by injection hq with hq; omega)
                 have hbk2 : Blk w2 w.heap.size 115 (cellsOf (d.at_ kn)) := hb2
                 have hcb := hbk2.byte (k := an) (by rw [HLN.out]; exact han)
                 have hzb := hbk2.frozen an
                 have hwl := hbk2.lt
                 obtain ⟨y, hy⟩ : ∃ y, y = (d.at_ kn).getD an 0 := ⟨_, rfl⟩
                 rw [← hy] at hcb
                 have hxor : bits .xor .u8 (V8 y) (n % 256) = V8 (y ^^^ byteOf n) := by rw [← V8_byteOf]; exact Crc.xor_b8 _ _
                 have HYY := Lib.hid hy
                 obtain ⟨z8, hz8⟩ : ∃ z8, y ^^^ byteOf n = z8 := ⟨_, rfl⟩
                 rw [hz8] at hxor
                 have HZ8 := Lib.hid hz8
                 have hb3 : Below w.heap.size w (w2.setCell ⟨w.heap.size, an, none⟩ (.int .u8 (V8 z8))) := ((Mods.of_below (F := fun _ => False) hbl2).setCell (p := ⟨w.heap.size, an, none⟩) (.inr (Nat.le_refl _)) (.int .u8 (V8 z8))).below fun _ _ h => h
                 have hbk3 : Blk (w2.setCell ⟨w.heap.size, an, none⟩ (.int .u8 (V8 z8))) w.heap.size 115 (cellsOf ((d.at_ kn).set an z8)) := hbk2.setByte an z8
                 have q2 := (hb3.cell (cell_lt k2)).trans k2
                 have HB3 := Lib.hid hb3
                 have HK3 := Lib.hid hbk3
                 clear hb2 hg2 hz2 hbl2 hbk2 hy hz8 hb3 hbk3 k0 k1 k2 k3 hlk)
              refine Ord.region_ord [] [0, 1, 2, 3, 4, 5, 6] (by kernel_rfl) (by kernel_rfl) (by kernel_rfl) (by kernel_rfl) (Ord.ord_all [_, _, _, _, _, _, _] rfl (by kernel_rfl) ?_)
              have h64 : ((d.at_ kn).set an z8).length = 64 := by rw [List.length_set]; exact HLN.out
              go_wp2_with
                (refine wpList_load_mid rfl 115 (.tmp 12) rfl w.heap.size 0 rfl (((d.at_ kn).set an z8).map B8) _ (blk_range (show Blk (w2.setCell ⟨w.heap.size, an, none⟩ (.int .u8 (V8 z8))).drew w.heap.size 115 (((d.at_ kn).set an z8).map B8).toArray from HK3.out) 0 _ (fun j v hv => by rw [Nat.zero_add]; exact hv)) secTy rfl (by rw [List.length_map, h64]; kernel_rfl) ?_
                 refine wpList_put_sec rfl (.tmp 73) (.tmp 74) (.tmp 75) rfl m d.at_ kn ((d.at_ kn).set an z8) rfl rfl rfl (HSEC.out.heap (HB3.out.block m HSEC.out.lt)) hpl4 h64 ?_
                 intro w5 hs5 hg5
                 have HS5 := Lib.hid hs5
                 have HG5 := Lib.hid hg5
                 clear hs5 hg5)
              refine Ord.nx_end ?_
              go_wp2_with fail
              go_ret
              rw [HR2.out, ← HYY.out, HZ8.out]
              have hold : ∀ q, q < w.heap.size → q ≠ m → w5.heap[q]? = w.heap[q]? := fun q hq hne => (HG5.out.block q (by show q < (w2.setCell _ _).heap.size; exact Nat.lt_of_lt_of_le hq HB3.out.size) (by simpa using hne)).trans (HB3.out.block q hq)
              obtain ⟨es, cc, he⟩ := HSEC.out.obj
              have hnm : ∀ (g : Nat) (cs : Array Value) (t : TypeId) (fz : Nat × Nat), w.heap[g]? = some (Obj.cells cs t fz) → w5.heap[g]? = some (Obj.cells cs t fz) := fun g cs t fz hh => (hold g (Array.getElem?_eq_some_iff.1 hh).1 (by
                rintro rfl
                rw [hh] at he
                cases he)).trans hh
              obtain ⟨ms, hv1, hv2, hv3, hv4⟩ := HB.out.devs
              have hmj : ms[j]? = some m := by
                obtain ⟨m', hm', hc'⟩ : ∃ m', ms[j]? = some m' ∧ w.cell? ⟨g, j * 5 + 2, none⟩ = some (.map (some m')) := by
                  have hjm : ms[j]? = some ms[j] := List.getElem?_eq_getElem (by omega)
                  have hr := devRows_get (wcOf p) 0 p.devs ms j d _ HD.out hjm
                  rw [Nat.zero_add] at hr
                  exact ⟨_, hjm, hv1.at_ (k := j * 5 + 2) (u := .map (some ms[j])) (by rw [flat_get _ (devRows_five (wcOf p) 0 p.devs ms) j 2 _ hr (by omega)]; rfl)⟩
                rw [HC2.out] at hc'
                injection hc' with hc'
                injection hc' with hc'
                injection hc' with hc'
                rw [hm', hc']
              have hdv := DevsAt.setSec (b := (d.at_ kn).set an z8) (hv1.heap fun g cs hh => hnm g cs _ _ hh) hv2 hv3 hv4 HD.out hmj hkl HS5.out hold
              have hwc : wcOf { p with devs := p.devs.set j { d with has := d.has.set kn ((d.at_ kn).set an z8) } } = wcOf p := funext fun i => by
                unfold wcOf
                simp only
                rw [List.getElem?_set]
                by_cases hji : j = i
                · subst hji
                  rw [if_pos rfl, if_pos hj, HD.out]
                  rfl
                · rw [if_neg hji]
              have hmods : Mods w.heap.size F w w5 := ⟨HG5.out.os.trans HB3.out.os, HG5.out.tape.trans HB3.out.tape, HG5.out.output.trans HB3.out.output, Nat.le_trans HB3.out.size HG5.out.size, fun q hq hn => hold q hq (by rintro rfl; exact hn HFm.out)⟩
              refine ⟨rfl, ⟨D, T, .slice (some ⟨g, 0, none⟩) p.devs.length c1, W, (?_ : PlantB w5 (Grow F w w5) a { p with devs := p.devs.set j { d with has := d.has.set kn ((d.at_ kn).set an z8) } } (wcOf { p with devs := p.devs.set j { d with has := d.has.set kn ((d.at_ kn).set an z8) } }) D T (.slice (some ⟨g, 0, none⟩) p.devs.length c1) W)⟩, hmods⟩
              rw [hwc]
              refine PlantB.mono (F := F) ⟨?_, HB.out.own, HB.out.disks.heap fun g cs hh => hnm g cs _ _ hh, HB.out.tapes.heap fun g cs hh => hnm g cs _ _ hh, ?_, HB.out.waits.heap fun g cs hh => hnm g cs _ _ hh⟩ fun g _ hg => .inl hg
              · exact hnm _ _ _ _ HB.out.blk
              · have e : (p.devs.set j { d with has := d.has.set kn ((d.at_ kn).set an z8) }).length = p.devs.length := List.length_set
                exact hdv
            | false =>
              have hm := HDI.out ht
              rw [ht] at k0 k3
              have hkb : decide ((d.most : Int) ≤ (kn : Int)) = false := decide_eq_false (by omega)
              have hkI : (kn : Int) < (d.most : Int) := by omega
              clear hm
              go_enter Tryd.func30, Tryd.ntmps30
              go_wp2_with fail
              refine (dev_some HB.out j hj).mono ?_
              rintro e w1 ⟨rfl, rfl⟩
              go_wp2_with
                (refine wpList_store_all rfl 115 (.tmp 12) (.tmp 62) rfl w.heap.size 115 _ ((d.at_ kn).map B8) rfl rfl (Blk.new _ _ _) (by rw [List.length_map, HLN.out]; rfl) (by rw [List.length_map, HLN.out]; kernel_rfl) (B8_one _) ?_
                 intro w2 hb2 hg2 hz2
                 have hbl2 : Below w.heap.size w w2 := (below_al' _).grown hg2 (by simp) (fun q hq => by injection hq with hq; omega)
                 have hbk2 : Blk w2 w.heap.size 115 (cellsOf (d.at_ kn)) := hb2
                 have hcb := hbk2.byte (k := an) (by rw [HLN.out]; exact han)
                 have hzb := hbk2.frozen an
                 have hwl := hbk2.lt
                 obtain ⟨y, hy⟩ : ∃ y, y = (d.at_ kn).getD an 0 := ⟨_, rfl⟩
                 rw [← hy] at hcb
                 have hxor : bits .xor .u8 (V8 y) (n % 256) = V8 (y ^^^ byteOf n) := by rw [← V8_byteOf]; exact Crc.xor_b8 _ _
                 have HYY := Lib.hid hy
                 obtain ⟨z8, hz8⟩ : ∃ z8, y ^^^ byteOf n = z8 := ⟨_, rfl⟩
                 rw [hz8] at hxor
                 have HZ8 := Lib.hid hz8
                 have hb3 : Below w.heap.size w (w2.setCell ⟨w.heap.size, an, none⟩ (.int .u8 (V8 z8))) := ((Mods.of_below (F := fun _ => False) hbl2).setCell (p := ⟨w.heap.size, an, none⟩) (.inr (Nat.le_refl _)) (.int .u8 (V8 z8))).below fun _ _ h => h
                 have hbk3 : Blk (w2.setCell ⟨w.heap.size, an, none⟩ (.int .u8 (V8 z8))) w.heap.size 115 (cellsOf ((d.at_ kn).set an z8)) := hbk2.setByte an z8
                 have q2 := (hb3.cell (cell_lt k2)).trans k2
                 have HB3 := Lib.hid hb3
                 have HK3 := Lib.hid hbk3
                 clear hb2 hg2 hz2 hbl2 hbk2 hy hz8 hb3 hbk3 k0 k1 k2 k3 hlk)
              refine Ord.region_ord [] [0, 1, 2, 3, 4, 5, 6] (by kernel_rfl) (by kernel_rfl) (by kernel_rfl) (by kernel_rfl) (Ord.ord_all [_, _, _, _, _, _, _] rfl (by kernel_rfl) ?_)
              have h64 : ((d.at_ kn).set an z8).length = 64 := by rw [List.length_set]; exact HLN.out
              go_wp2_with
                (refine wpList_load_mid rfl 115 (.tmp 12) rfl w.heap.size 0 rfl (((d.at_ kn).set an z8).map B8) _ (blk_range (show Blk (w2.setCell ⟨w.heap.size, an, none⟩ (.int .u8 (V8 z8))).drew w.heap.size 115 (((d.at_ kn).set an z8).map B8).toArray from HK3.out) 0 _ (fun j v hv => by rw [Nat.zero_add]; exact hv)) secTy rfl (by rw [List.length_map, h64]; kernel_rfl) ?_
                 refine wpList_put_sec rfl (.tmp 73) (.tmp 74) (.tmp 75) rfl m d.at_ kn ((d.at_ kn).set an z8) rfl rfl rfl (HSEC.out.heap (HB3.out.block m HSEC.out.lt)) hpl4 h64 ?_
                 intro w5 hs5 hg5
                 have HS5 := Lib.hid hs5
                 have HG5 := Lib.hid hg5
                 clear hs5 hg5)
              refine Ord.nx_end ?_
              go_wp2_with fail
              go_ret
              rw [HR2.out, ← HYY.out, HZ8.out]
              have hold : ∀ q, q < w.heap.size → q ≠ m → w5.heap[q]? = w.heap[q]? := fun q hq hne => (HG5.out.block q (by show q < (w2.setCell _ _).heap.size; exact Nat.lt_of_lt_of_le hq HB3.out.size) (by simpa using hne)).trans (HB3.out.block q hq)
              obtain ⟨es, cc, he⟩ := HSEC.out.obj
              have hnm : ∀ (g : Nat) (cs : Array Value) (t : TypeId) (fz : Nat × Nat), w.heap[g]? = some (Obj.cells cs t fz) → w5.heap[g]? = some (Obj.cells cs t fz) := fun g cs t fz hh => (hold g (Array.getElem?_eq_some_iff.1 hh).1 (by
                rintro rfl
                rw [hh] at he
                cases he)).trans hh
              obtain ⟨ms, hv1, hv2, hv3, hv4⟩ := HB.out.devs
              have hmj : ms[j]? = some m := by
                obtain ⟨m', hm', hc'⟩ : ∃ m', ms[j]? = some m' ∧ w.cell? ⟨g, j * 5 + 2, none⟩ = some (.map (some m')) := by
                  have hjm : ms[j]? = some ms[j] := List.getElem?_eq_getElem (by omega)
                  have hr := devRows_get (wcOf p) 0 p.devs ms j d _ HD.out hjm
                  rw [Nat.zero_add] at hr
                  exact ⟨_, hjm, hv1.at_ (k := j * 5 + 2) (u := .map (some ms[j])) (by rw [flat_get _ (devRows_five (wcOf p) 0 p.devs ms) j 2 _ hr (by omega)]; rfl)⟩
                rw [HC2.out] at hc'
                injection hc' with hc'
                injection hc' with hc'
                injection hc' with hc'
                rw [hm', hc']
              have hdv := DevsAt.setSec (b := (d.at_ kn).set an z8) (hv1.heap fun g cs hh => hnm g cs _ _ hh) hv2 hv3 hv4 HD.out hmj hkl HS5.out hold
              have hwc : wcOf { p with devs := p.devs.set j { d with has := d.has.set kn ((d.at_ kn).set an z8) } } = wcOf p := funext fun i => by
                unfold wcOf
                simp only
                rw [List.getElem?_set]
                by_cases hji : j = i
                · subst hji
                  rw [if_pos rfl, if_pos hj, HD.out]
                  rfl
                · rw [if_neg hji]
              have hmods : Mods w.heap.size F w w5 := ⟨HG5.out.os.trans HB3.out.os, HG5.out.tape.trans HB3.out.tape, HG5.out.output.trans HB3.out.output, Nat.le_trans HB3.out.size HG5.out.size, fun q hq hn => hold q hq (by rintro rfl; exact hn HFm.out)⟩
              refine ⟨rfl, ⟨D, T, .slice (some ⟨g, 0, none⟩) p.devs.length c1, W, (?_ : PlantB w5 (Grow F w w5) a { p with devs := p.devs.set j { d with has := d.has.set kn ((d.at_ kn).set an z8) } } (wcOf { p with devs := p.devs.set j { d with has := d.has.set kn ((d.at_ kn).set an z8) } }) D T (.slice (some ⟨g, 0, none⟩) p.devs.length c1) W)⟩, hmods⟩
              rw [hwc]
              refine PlantB.mono (F := F) ⟨?_, HB.out.own, HB.out.disks.heap fun g cs hh => hnm g cs _ _ hh, HB.out.tapes.heap fun g cs hh => hnm g cs _ _ hh, ?_, HB.out.waits.heap fun g cs hh => hnm g cs _ _ hh⟩ fun g _ hg => .inl hg
              · exact hnm _ _ _ _ HB.out.blk
              · have e : (p.devs.set j { d with has := d.has.set kn ((d.at_ kn).set an z8) }).length = p.devs.length := List.length_set
                exact hdv
end Go.Proofs.YtloffgoenaomkaaDoor.Pl
