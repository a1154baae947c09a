/- The reference's Rot. -/
import Derived.Test.YtomncfiklkhfjaaFold19
import Derived.Test.YtomncfiklkhfjaaFold16
import Derived.Test.YtomncfiklkhfjaaFold10
namespace Go.Proofs.Ytomncfiklkhfjaa.Ref
open Go Go.RowKit Mem Pl
variable {S : Nat → Prop}
/-- A number as a byte. -/
def byteOf (n : Int) : UInt8 := UInt8.ofNat (n % 256).toNat
theorem V8_byteOf (n : Int) : V8 (byteOf n) = n % 256 := by
  unfold V8 byteOf
  have h : (n % 256).toNat < 256 := by omega
  simp [UInt8.toNat_ofNat', Nat.mod_eq_of_lt h]
  omega
theorem u8_wrap (n : Int) : IntKind.u8.wrap n = V8 (byteOf n) := by
  rw [V8_byteOf]
  rfl
theorem set_has (ds : List Dev) (j : Nat) (d' : Dev) : (ds.set j d').map (·.has) = (ds.map (·.has)).set j d'.has := List.map_set
set_option maxRecDepth 100000 in
set_option maxHeartbeats 8000000 in
theorem rot_any {w : World} {F : Nat → Prop} {r : Nat} {p : PM} {left : Int} {D T V W : Value} (h : RefB S w F r p left D T V W) (hok : p.Ok) (i k a n : Int) (hS : ∀ g, w.heap.size ≤ g → S g) :
    Calls Try.prog 50 #[.pointer (some ⟨r, 0, none⟩), .int .i64 i, .int .i64 k, .int .i64 a, .int .i64 n] w fun e w' => e = .returned (.bool (p.rot i k a (byteOf n)).2) ∧ RGone S F w r (p.rot i k a (byteOf n)).1 w' := by
  have HB := Lib.hid h
  have HSS := Lib.hid hS
  clear hS
  have HHS := Lib.hid (has_any h hok i)
  have HSM := Lib.hid (fun q : Nat => (⟨(HB.out.below (below_drewN (Below.refl _ w) q)).same.1, (Mods.refl w.heap.size F w).drewN q, ⟨fun _ _ hh => hh, fun _ _ hh => hh⟩⟩ : RGone S F w r p (w.drewN q)))
  rcases num_cases p i with ⟨hn, hi⟩ | ⟨j, d, rfl, hn, hj, hd⟩
  · have e : p.rot i k a (byteOf n) = (p, false) := by unfold PM.rot; rw [hn]
    rw [e]
    rw [hn] at HHS
    clear e hn h
    go_enter Try.func50, Try.ntmps50
    go_wp2_with fail
    refine HHS.out.mono ?_
    rintro e _ ⟨rfl, q, rfl⟩
    go_wp2_with fail
    go_ret
    exact ⟨rfl, HSM.out _⟩
  · have HRE : Hid (p.rot (j : Int) k a (byteOf n) = if 0 ≤ k ∧ 0 ≤ a ∧ a < 64 ∧ k < (d.has.length : Int) then ({ p with devs := p.devs.set j { d with has := d.has.set k.toNat ((d.at_ k.toNat).set a.toNat (((d.at_ k.toNat).getD a.toNat 0) ^^^ byteOf n)) } }, true) else (p, false)) := Lib.hid (by
      unfold PM.rot
      rw [hn]
      simp only [hd])
    rw [hn] at HHS
    obtain ⟨AV, cV, rfl⟩ := h.has.shape
    obtain ⟨rows, hv1, hv2, hv3, hv4⟩ := h.has
    obtain ⟨u, hu1, hu2⟩ := hv2 _ _ (devs_has hd)
    obtain ⟨A', c', rfl⟩ := hu2.shape
    obtain ⟨gH, hA, hcell⟩ := hv1.cell j _ hu1
    subst hA
    have h2 := h.c2
    have hml : (p.devs.map (·.has)).length = p.devs.length := by simp
    rw [hml] at h2
    have hjI : (j : Int) < (p.devs.length : Int) := by omega
    have hn12 := hok.n12
    have hmost := (hok.most j d hd).2.2
    have hlen : d.has.length ≤ 4096 := by
      cases ht : d.tape with
      | true => have := hok.room j d hd ht; omega
      | false => have := hok.disk j d hd ht; omega
    have HV1 := Lib.hid hv1
    have HV2 := Lib.hid hv2
    have HV3 := Lib.hid hv3
    have HV4 := Lib.hid hv4
    have HU1 := Lib.hid hu1
    have HU2 := Lib.hid hu2
    have HD := Lib.hid hd
    have HFA : Hid (¬ (0 ≤ k ∧ 0 ≤ a ∧ a < 64 ∧ k < (d.has.length : Int)) → p.rot (j : Int) k a (byteOf n) = (p, false)) := Lib.hid fun h => by rw [HRE.out, if_neg h]
    clear hv1 hv2 hv3 hv4 hu1 hu2 hml h hn hd hmost
    by_cases hk0 : k < 0
    · rw [HFA.out (by omega)]
      go_enter Try.func50, Try.ntmps50
      go_wp2_with fail
      refine HHS.out.mono ?_
      rintro e _ ⟨rfl, q, rfl⟩
      go_wp2_with fail
      go_ret
      exact ⟨rfl, HSM.out _⟩
    · by_cases hkl : (d.has.length : Int) ≤ k
      · have hkb : decide ((d.has.length : Int) ≤ k) = true := decide_eq_true hkl
        rw [HFA.out (by omega)]
        go_enter Try.func50, Try.ntmps50
        go_wp2_with fail
        refine HHS.out.mono ?_
        rintro e _ ⟨rfl, q, rfl⟩
        go_wp2_with fail
        go_ret
        exact ⟨rfl, HSM.out _⟩
      · have hkb : decide ((d.has.length : Int) ≤ k) = false := decide_eq_false hkl
        by_cases ha0 : a < 0
        · rw [HFA.out (by omega)]
          go_enter Try.func50, Try.ntmps50
          go_wp2_with fail
          refine HHS.out.mono ?_
          rintro e _ ⟨rfl, q, rfl⟩
          go_wp2_with fail
          go_ret
          exact ⟨rfl, HSM.out _⟩
        · by_cases ha6 : 64 ≤ a
          · have hab : decide (64 ≤ a) = true := decide_eq_true ha6
            rw [HFA.out (by omega)]
            go_enter Try.func50, Try.ntmps50
            go_wp2_with fail
            refine HHS.out.mono ?_
            rintro e _ ⟨rfl, q, rfl⟩
            go_wp2_with fail
            go_ret
            exact ⟨rfl, HSM.out _⟩
          · have hab : decide (64 ≤ a) = false := decide_eq_false ha6
            obtain ⟨kn, rfl⟩ := Int.eq_ofNat_of_zero_le (show 0 ≤ k by omega)
            obtain ⟨an, rfl⟩ := Int.eq_ofNat_of_zero_le (show 0 ≤ a by omega)
            have hkn : kn < d.has.length := by omega
            have han : an < 64 := by omega
            have HR2 : Hid (p.rot (j : Int) (kn : Int) (an : Int) (byteOf n) = ({ p with devs := p.devs.set j { d with has := d.has.set kn ((d.at_ kn).set an (((d.at_ kn).getD an 0) ^^^ byteOf n)) } }, true)) := Lib.hid (by rw [HRE.out, if_pos (by omega)]; rfl)
            have hx : d.has[kn]? = some (d.at_ kn) := by
              unfold Dev.at_
              rw [List.getD_eq_getElem?_getD, List.getElem?_eq_getElem hkn]
              rfl
            obtain ⟨gs, v0, hA, _, hc0, hsec⟩ := HU2.out.sec hx
            subst hA
            obtain ⟨Av, cv, rfl, hbat, h64⟩ := hsec.slice
            have HBAT := Lib.hid hbat
            have H64 := Lib.hid h64
            have hknI : (kn : Int) < (d.has.length : Int) := by omega
            have hanI : (an : Int) < 64 := by omega
            obtain ⟨vs, hvv, _⟩ := HU2.out
            have hfz := hvv.free (by omega) kn
            obtain ⟨hfg, cur, hcur⟩ := hvv.blockF (by omega)
            have hgs := lt_heap hcur
            have HCUR := Lib.hid hcur
            have HFG := Lib.hid hfg
            have hgH := cell_lt hcell
            have hr2 := cell_lt h2
            have HVV := Lib.hid hvv
            clear hx hsec hbat h64 hvv hfg hcur hkb hab hk0 hkl ha0 ha6
            go_enter Try.func50, Try.ntmps50
            go_wp2_with fail
            refine HHS.out.mono ?_
            rintro e _ ⟨rfl, q, rfl⟩
            have hbq : Below w.heap.size w ((w.drewN q).alloc (.cells #[] 5)) := (below_drewN (Below.refl w.heap.size w) q).alloc (Nat.le_refl _) _
            have q2 := (hbq.cell hr2).trans h2
            have qH := (hbq.cell hgH).trans hcell
            have q0 := (hbq.cell hgs).trans hc0
            clear hbq
            go_wp2_with
              (at_builtin
               refine wpList_copy_sec rfl (.tmp 40) (.tmp 50) rfl _ rfl Av cv (d.at_ kn) rfl ((HBAT.out.below (below_drewN (Below.refl _ w) q)).below (below_al' _)) H64.out ?_
               intro g5 c5 cs5 w5 hh5 htk5 hg5 hb5
               have hbm : Below w.heap.size w w5 := ((below_drewN (Below.refl w.heap.size w) q).alloc (Nat.le_refl _) (.cells #[] 5)).trans (hb5.mono (by show w.heap.size ≤ ((w.drewN q).alloc _).heap.size; simp))
               have HH5 := Lib.hid hh5
               have HTK5 := Lib.hid htk5
               have HB5 := Lib.hid hbm
               have HG5 : Hid (w.heap.size ≤ g5) := Lib.hid (Nat.le_trans (by show w.heap.size ≤ ((w.drewN q).alloc _).heap.size; simp) hg5)
               have hcb : w5.cell? ⟨g5, an, none⟩ = some (.int .u8 (V8 ((d.at_ kn).getD an 0))) := by
                 have h1 : w5.cell? ⟨g5, an, none⟩ = cs5[an]? := Blk.cell (w := w5) (g := g5) (t := 5) (cs := cs5) hh5 an
                 have h2 : (cs5.toList.take 64)[an]? = ((d.at_ kn).map B8)[an]? := by rw [htk5]
                 have h3 := H64.out
                 rw [List.getElem?_take, if_pos han, Array.getElem?_toList, List.getElem?_map, List.getElem?_eq_getElem (by omega)] at h2
                 rw [h1, h2]
                 simp [List.getD_eq_getElem?_getD, B8, show an < (d.at_ kn).length by omega]
               have hzb : w5.frozen? ⟨g5, an, none⟩ = false := Blk.frozen (w := w5) (g := g5) (t := 5) (cs := cs5) hh5 an
               have hg5l := lt_heap hh5
               have hyy : ∃ y, y = (d.at_ kn).getD an 0 := ⟨_, rfl⟩
               obtain ⟨y, hy⟩ := hyy
               rw [← hy] at hcb
               have hxor : bits .xor .u8 (V8 y) (n % 256) = V8 (y ^^^ byteOf n) := by rw [← V8_byteOf]; exact Crc.xor_b8 _ _
               have HYY := Lib.hid hy
               obtain ⟨z8, hz8⟩ : ∃ z8, y ^^^ byteOf n = z8 := ⟨_, rfl⟩
               rw [hz8] at hxor
               have HZ8 := Lib.hid hz8
               have hb6 : Below w.heap.size w (w5.setCell ⟨g5, an, none⟩ (.int .u8 (V8 z8))) := ((Mods.of_below (F := fun _ => False) hbm).setCell (p := ⟨g5, an, none⟩) (.inr HG5.out) (.int .u8 (V8 z8))).below fun _ _ h => h
               have p2 := (hb6.cell hr2).trans h2
               have pH := (hb6.cell hgH).trans hcell
               have p0 := (hb6.cell hgs).trans hc0
               have pz := (HVV.out.below hb6).free (by omega) kn
               have HB6 := Lib.hid hb6
               have HS6 : Hid (SecOk S (w5.setCell ⟨g5, an, none⟩ (.int .u8 (V8 z8))) ((d.at_ kn).set an z8) (.slice (some ⟨g5, 0, none⟩) 64 c5)) := Lib.hid ⟨g5, c5, _, rfl, Blk.set_ (w := w5) (g := g5) (t := 5) (cs := cs5) hh5 an (.int .u8 (V8 z8)), by rw [Array.toList_setIfInBounds, List.take_set, htk5, List.map_set]; rfl, by rw [List.length_set]; exact H64.out, HSS.out _ HG5.out⟩
               clear hh5 htk5 hg5 hb5 hbm hy hz8 hb6)
            go_ret
            have hset := HasAt.setSec (HV1.out.below HB6.out) (fun i l hl => (HV2.out i l hl).imp fun v y => ⟨y.1, y.2.mods (Mods.of_below (F := fun _ => False) HB6.out) (fun g hg _ => ⟨hg, fun x => x⟩) (RMods.of_below (F := fun _ => False) HB6.out).bytes⟩) HV3.out (fun i g hg => ⟨(HV4.out i g hg).1, Nat.lt_of_lt_of_le (HV4.out i g hg).2 HB6.out.size⟩) (devs_has HD.out) HU1.out hkn HS6.out
            have hcur6 : (w5.setCell ⟨g5, an, none⟩ (.int .u8 (V8 z8))).heap[gs]? = some (Obj.cells cur 28 (0, 0)) := (HB6.out.block gs hgs).trans HCUR.out
            have hfar : ∀ (t : TypeId), t ≠ 28 → ∀ (g : Nat) (cs : Array Value), (w5.setCell ⟨g5, an, none⟩ (.int .u8 (V8 z8))).heap[g]? = some (Obj.cells cs t (0, 0)) → ((w5.setCell ⟨g5, an, none⟩ (.int .u8 (V8 z8))).setCell ⟨gs, kn, none⟩ (.slice (some ⟨g5, 0, none⟩) 64 c5)).heap[g]? = some (Obj.cells cs t (0, 0)) := fun t ht g cs hh =>
              Blk.far (w := w5.setCell ⟨g5, an, none⟩ (.int .u8 (V8 z8))) (g := g) (t := t) (cs := cs) hh (p := ⟨gs, kn, none⟩) (Blk.ne_ (w := w5.setCell ⟨g5, an, none⟩ (.int .u8 (V8 z8))) (g := g) (t := t) (cs := cs) (g' := gs) (t' := 28) (cs' := cur) hh hcur6 ht) _
            rw [HR2.out, ← HYY.out, HZ8.out]
            refine ⟨rfl, ⟨_, _, _, _, _, (RefB.putV (q := { p with devs := p.devs.set j { d with has := d.has.set kn ((d.at_ kn).set an z8) } }) (HB.out.below HB6.out) ⟨rfl, rfl, rfl, rfl, rfl, rfl, rfl⟩ (fun t ht _ => hfar t ht) ?_).mono fun g _ hg => ?_⟩, (RMods.of_below (F := F) HB6.out).trans ⟨(Mods.refl _ _ _).setCell (.inl (.inl HFG.out)) _, ⟨hfar _ (by decide), hfar _ (by decide)⟩⟩⟩
            · rw [set_has]
              exact hset.mono fun g _ hg => .inl hg
            · exact hg.imp id fun hg => ⟨Nat.le_trans HB6.out.size hg.1, hg.2⟩
end Go.Proofs.Ytomncfiklkhfjaa.Ref
