/- The stand's 'do', a case at a time. -/
import Derived.Test.YtgcckfaljfkkhaaDoorFold24
import Derived.Test.YtgcckfaljfkkhaaDoorHotAppend
namespace Go.Proofs.YtgcckfaljfkkhaaDoor.Hot
open Go Go.RowKit Mem Pl Disk Crc _root_.Go.Proofs.YtgcckfaljfkkhaaDoor.Frame
set_option maxRecDepth 100000 in
set_option maxHeartbeats 8000000 in
theorem sdo_x {B : Nat} {w : World} {s a h r : Nat} {F H G : Nat → Prop} {pm : PM} {m n : Nat} {Hs : List (List UInt8)} {segs : List Nat} {hsed used : List Pc} {bytes : List (List UInt8)} {ever dims : Nat} (x : StandB B w s a h r F H G pm m n Hs segs hsed used bytes ever dims) (hul : used.length ≤ 90000000) (hm : m ≤ 900000000) (_hev : ever ≤ 4000000000000000000) (_hdi : dims ≤ 4000000000000000000)
    (kind num : Int) (A : Option Addr) (L cap : Nat) (p : Plc) (KA : Option Addr) (kl kc : Nat) (hki : inI kind) (hw : whichM kind 10 = 6) :
    Calls Tryd.prog 18 #[.pointer (some ⟨s, 0, none⟩), opV kind num A L cap p KA kl kc] w fun e w' => e = .returned (.bool true) ∧ Below B w w' ∧ Stood B w' s a r n (m + 20) (ever + 9) (dims + 1) (used.length + 1) := by
  have HX := Lib.hid x
  have HKI := Lib.hid (fun W : World => which_any W kind 10 (by omega) (by omega) hki)
  rw [hw] at HKI
  clear x
  unfold opV
  go_enter Tryd.func18, Tryd.ntmps18
  have hb1 : Below w.heap.size w (w.alloc (.cells #[.int .i64 kind, .int .i64 num, .slice A L cap, .int .i64 p.dev, .int .i64 p.at_, .int .i64 p.len, .bool p.bad, .slice KA kl kc] 53)) := below_al' _
  have HB1 := Lib.hid hb1
  have HKB := Lib.hid (Blk.new w 53 #[.int .i64 kind, .int .i64 num, .slice A L cap, .int .i64 p.dev, .int .i64 p.at_, .int .i64 p.len, .bool p.bad, .slice KA kl kc])
  have HX1 := Lib.hid (HX.out.below hb1)
  have hbs : B ≤ w.heap.size := HX.out.hB
  have hss : s < w.heap.size := HX.out.blk.lt
  clear hb1
  go_upto_region 1 with fail
  generalize hwe : w.alloc (.cells #[.int .i64 kind, .int .i64 num, .slice A L cap, .int .i64 p.dev, .int .i64 p.at_, .int .i64 p.len, .bool p.bad, .slice KA kl kc] 53) = w1 at *
  have hlk := HKB.out.lt
  clear hwe
  obtain ⟨c0, c1, c2, c3, c4⟩ := HX1.out.c0
  have hls := HX1.out.blk.lt
  obtain ⟨U, V, vs, y⟩ := HX1.out.ref
  have HY := Lib.hid y
  have u2 := y.c2
  have u3 := y.c3
  have hlr := y.blk.lt
  obtain ⟨AU, cU, hUe⟩ := y.uv.shape
  rw [hUe] at u2
  have o0 := (HKB.out.cell 0).trans (show _ = some (.int .i64 kind) from rfl)
  have o3 := (HKB.out.cell 3).trans (show _ = some (.int .i64 p.dev) from rfl)
  have o4 := (HKB.out.cell 4).trans (show _ = some (.int .i64 p.at_) from rfl)
  have o5 := (HKB.out.cell 5).trans (show _ = some (.int .i64 p.len) from rfl)
  have o6 := (HKB.out.cell 6).trans (show _ = some (.bool p.bad) from rfl)
  have HAT := Lib.hid (fun W (hb : Below w1.heap.size w1 W) => rat_any (HY.out.below hb) (by omega) p.dev p.at_ p.len p.bad)
  clear y HY hUe
  go_upto_region 3 with
    (refine (HKI.out _).mono ?_
     rintro e _ ⟨rfl, rfl⟩)
  go_upto_region 17 with fail
  refine Ord.region_ord [] [0, 1, 2, 3, 4, 5, 6, 7] (by kernel_rfl) (by kernel_rfl) (by kernel_rfl) (by kernel_rfl) (Ord.ord_all [_, _, _, _, _, _, _, _] rfl (by kernel_rfl) ?_)
  go_wp2_with fail
  refine (HAT.out _ (below_drewN (Below.refl _ _) 1)).mono ?_
  rintro e w2 ⟨q, hq, rfl, hb2⟩
  have HB2 := Lib.hid ((below_drewN (Below.refl w1.heap.size w1) 1).trans hb2)
  have HX2 := Lib.hid (HX1.out.below HB2.out)
  have HK2 := Lib.hid (HKB.out.below_ HB2.out)
  clear hb2 c0 c1 c2 c3 c4 u2 u3 o0 o3 o4 o5 o6 hls hlr hlk HAT
  cases q with
  | none =>
    have HQ := Lib.hid (show ∀ u ∈ used, isP 1 p.dev p.at_ p.len u = false from hq)
    clear hq
    simp only [findI]
    have hneg : (-1 : Int) < 0 := by omega
    have HRD := Lib.hid (fun W (hb : Below w2.heap.size w2 W) => (HX2.out.below hb).readNo (by omega) (by omega) p.dev p.at_ p.len p.bad HQ.out)
    obtain ⟨_, c1, _, _, _⟩ := HX2.out.c0
    have hls := HX2.out.blk.lt
    have o3 := (HK2.out.cell 3).trans (show _ = some (.int .i64 p.dev) from rfl)
    have o4 := (HK2.out.cell 4).trans (show _ = some (.int .i64 p.at_) from rfl)
    have o5 := (HK2.out.cell 5).trans (show _ = some (.int .i64 p.len) from rfl)
    have o6 := (HK2.out.cell 6).trans (show _ = some (.bool p.bad) from rfl)
    have hlk := HK2.out.lt
    go_wp2_with fail
    refine Ord.nx_end ?_
    go_upto_region 18 with fail
    refine Ord.region_ord [] [0, 1, 2, 3, 4, 5, 6, 7, 8, 9, 10, 11] (by kernel_rfl) (by kernel_rfl) (by kernel_rfl) (by kernel_rfl) (Ord.ord_all [_, _, _, _, _, _, _, _, _, _, _, _] rfl (by kernel_rfl) ?_)
    go_wp2_with fail
    refine (HRD.out _ (below_drewN (Below.refl _ _) 1)).mono ?_
    rintro e w3 ⟨rfl, hb3⟩
    have HB3 := Lib.hid ((below_drewN (Below.refl w2.heap.size w2) 1).trans hb3)
    have HX3 := Lib.hid (HX2.out.below HB3.out)
    have HK3 := Lib.hid (HK2.out.below_ HB3.out)
    clear hb3 c1 o3 o4 o5 o6 hls hlk HRD
    have HFR := Lib.hid (fun W (hb : Below w3.heap.size w3 W) => (HX3.out.below hb).freeNo (by omega) p.dev p.at_ p.len p.bad HQ.out)
    obtain ⟨_, c1, _, _, _⟩ := HX3.out.c0
    have hls := HX3.out.blk.lt
    have o3 := (HK3.out.cell 3).trans (show _ = some (.int .i64 p.dev) from rfl)
    have o4 := (HK3.out.cell 4).trans (show _ = some (.int .i64 p.at_) from rfl)
    have o5 := (HK3.out.cell 5).trans (show _ = some (.int .i64 p.len) from rfl)
    have o6 := (HK3.out.cell 6).trans (show _ = some (.bool p.bad) from rfl)
    have hlk := HK3.out.lt
    go_wp2_with fail
    refine Ord.nx_end ?_
    go_upto_region 19 with fail
    refine Ord.region_ord [] [0, 1, 2, 3, 4, 5, 6, 7] (by kernel_rfl) (by kernel_rfl) (by kernel_rfl) (by kernel_rfl) (Ord.ord_all [_, _, _, _, _, _, _, _] rfl (by kernel_rfl) ?_)
    go_wp2_with fail
    refine (HFR.out _ (below_drewN (Below.refl _ _) 1)).mono ?_
    rintro e w4 ⟨rfl, hb4⟩
    have HB4 := Lib.hid ((below_drewN (Below.refl w3.heap.size w3) 1).trans hb4)
    have HX4 := Lib.hid (HX3.out.below HB4.out)
    clear hb4 c1 o3 o4 o5 o6 hls hlk HFR
    go_wp2_with fail
    refine Ord.nx_end ?_
    go_wp2_with fail
    go_ret
    have hs1 := HB1.out.size
    have hs2 := HB2.out.size
    have hs3 := HB3.out.size
    refine ⟨rfl, (HB1.out.mono hbs).trans ((HB2.out.mono (by omega)).trans ((HB3.out.mono (by omega)).trans (HB4.out.mono (by omega)))), h, F, H, G, pm, m, Hs, segs, hsed, used, bytes, ever, dims, HX4.out, ?_, ?_, ?_, ?_⟩ <;> omega
  | some k =>
    obtain ⟨⟨u, hu, hpu⟩, _⟩ := hq
    have hk : k < used.length := (List.getElem?_eq_some_iff.1 hu).1
    have hkb : k < bytes.length := by rw [← HX1.out.len]; exact hk
    obtain ⟨b, hbb⟩ : ∃ b, bytes[k]? = some b := ⟨_, List.getElem?_eq_getElem hkb⟩
    have HU := Lib.hid hu
    have HPU := Lib.hid hpu
    have HBB := Lib.hid hbb
    clear hu hpu hbb
    simp only [findI]
    have hneg : ¬ (k : Int) < 0 := by omega
    have hkbI : (k : Int) < (bytes.length : Int) := by omega
    have HRD := Lib.hid (fun W (hb : Below w2.heap.size w2 W) => (HX2.out.below hb).readAt (by omega) (by omega) HU.out HBB.out p.dev p.at_ p.len p.bad HPU.out)
    obtain ⟨_, c1, _, _, _⟩ := HX2.out.c0
    have hls := HX2.out.blk.lt
    have o3 := (HK2.out.cell 3).trans (show _ = some (.int .i64 p.dev) from rfl)
    have o4 := (HK2.out.cell 4).trans (show _ = some (.int .i64 p.at_) from rfl)
    have o5 := (HK2.out.cell 5).trans (show _ = some (.int .i64 p.len) from rfl)
    have o6 := (HK2.out.cell 6).trans (show _ = some (.bool p.bad) from rfl)
    have hlk := HK2.out.lt
    go_wp2_with fail
    refine Ord.nx_end ?_
    go_upto_region 18 with fail
    refine Ord.region_ord [] [0, 1, 2, 3, 4, 5, 6, 7, 8, 9, 10, 11] (by kernel_rfl) (by kernel_rfl) (by kernel_rfl) (by kernel_rfl) (Ord.ord_all [_, _, _, _, _, _, _, _, _, _, _, _] rfl (by kernel_rfl) ?_)
    go_wp2_with fail
    refine (HRD.out _ (below_drewN (Below.refl _ _) 1)).mono ?_
    rintro e w3 ⟨A', mm, cap', rfl, ho3, hb3⟩
    have HO3 := Lib.hid ho3
    have HLN := Lib.hid ho3.len
    have HB3 := Lib.hid ((below_drewN (Below.refl w2.heap.size w2) 1).trans hb3)
    have HX3 := Lib.hid (HX2.out.below HB3.out)
    have HK3 := Lib.hid (HK2.out.below_ HB3.out)
    clear ho3 hb3 c1 o3 o4 o5 o6 hls hlk HRD
    have HFR := Lib.hid (fun W (hb : Below w3.heap.size w3 W) => (HX3.out.below hb).freeAt (by omega) HU.out p.dev p.at_ p.len p.bad HPU.out)
    obtain ⟨_, c1, _, _, _⟩ := HX3.out.c0
    have hls := HX3.out.blk.lt
    have o3 := (HK3.out.cell 3).trans (show _ = some (.int .i64 p.dev) from rfl)
    have o4 := (HK3.out.cell 4).trans (show _ = some (.int .i64 p.at_) from rfl)
    have o5 := (HK3.out.cell 5).trans (show _ = some (.int .i64 p.len) from rfl)
    have o6 := (HK3.out.cell 6).trans (show _ = some (.bool p.bad) from rfl)
    have hlk := HK3.out.lt
    go_wp2_with fail
    refine Ord.nx_end ?_
    go_upto_region 19 with fail
    refine Ord.region_ord [] [0, 1, 2, 3, 4, 5, 6, 7] (by kernel_rfl) (by kernel_rfl) (by kernel_rfl) (by kernel_rfl) (Ord.ord_all [_, _, _, _, _, _, _, _] rfl (by kernel_rfl) ?_)
    go_wp2_with fail
    refine (HFR.out _ (below_drewN (Below.refl _ _) 1)).mono ?_
    rintro e w4 ⟨rfl, segs', hsed', hp, hsl, hsm, hm4⟩
    have hm34 : Mods w3.heap.size H w3 w4 := ((Mods.refl w3.heap.size H w3).drew).trans hm4
    have HM4 := Lib.hid hm34
    have HBT := Lib.hid (BAt.mods HO3.out.bat hm34 (Nat.le_refl _) (by
      intro _ ad hA hH
      rcases HO3.out.form with ⟨h1, _⟩ | ⟨g', h1, h2, _⟩
      · rw [h1] at hA; cases hA
      · rw [h1] at hA
        injection hA with hA
        subst hA
        have ha : w2.heap.size ≤ g' := h2
        have hb : g' < w2.heap.size := (HX2.out.hot.lt _ hH).2
        omega))
    have HP := Lib.hid hp
    have HSM := Lib.hid hsm
    clear hp hsm hm4 hm34 c1 o3 o4 o5 o6 hls hlk HFR
    go_wp2_with fail
    refine Ord.nx_end ?_
    have c2 := (HSM.out.blk.cell 2).trans (show _ = some (.pointer (some ⟨r, 0, none⟩)) from rfl)
    have hls := HSM.out.blk.lt
    obtain ⟨U5, V5, vs5, y5⟩ := HSM.out.ref
    have u3 := y5.c3
    have hlr5 := y5.blk.lt
    obtain ⟨v, hv, hby⟩ := y5.bv k b HBB.out
    obtain ⟨Ab, cb, rfl, hbat⟩ := hby.bat
    obtain ⟨AV, cV, rfl⟩ := y5.rows.shape
    obtain ⟨gV, hAV, hcv⟩ := y5.rows.cell k _ hv
    subst hAV
    have k1 := fun q => run_toString (P := Tryd.prog) (w := w4.drewN q) (ts := 9) Frame.byteTy strTy cap' (HBT.out.below (below_drewN (Below.refl _ _) q)) HLN.out
    have k2 := fun q => run_toString (P := Tryd.prog) (w := w4.drewN q) (ts := 9) Frame.byteTy strTy cb (hbat.below (below_drewN (Below.refl _ _) q)) rfl
    have k3 := run_toString (P := Tryd.prog) (w := w4) (ts := 9) Frame.byteTy strTy cap' HBT.out HLN.out
    have k4 := run_toString (P := Tryd.prog) (w := w4) (ts := 9) Frame.byteTy strTy cb hbat rfl
    generalize (⟨b.toArray⟩ : ByteArray) = S at k1 k2 k3 k4
    clear y5 hby hbat hv
    go_wp2_with fail
    go_quiet (fail)
    clear k1 k2 k3 k4 u3 hcv hlr5
    have HDR := Lib.hid ((HSM.out.below (below_drewN (Below.refl _ _) nq)).drop (by omega) hk HP.out HX.out.on HX.out.held (by rw [hsl]; exact HX.out.room) HX.out.n1 HX.out.n4)
    go_wp2_with
      (refine HDR.out.mono ?_
       rintro e w5 ⟨rfl, hz, hm5⟩
       have HZ := Lib.hid hz
       have HM5 := Lib.hid (show Mods w4.heap.size G w4 w5 from ((Mods.refl w4.heap.size G w4).drewN nq).trans hm5)
       clear hz hm5)
    go_ret
    have hs1 := HB1.out.size
    have hs2 := HB2.out.size
    have hs3 := HB3.out.size
    have hs4 := HM4.out.size
    refine ⟨rfl, (HB1.out.mono hbs).trans ((HB2.out.mono (by omega)).trans ((HB3.out.mono (by omega)).trans (((HM4.out.mono (by omega) fun _ _ h => h).below fun g hg hf => by have := (HX.out.hot.lt g hf).1; omega).trans ((HM5.out.mono (by omega) fun _ _ h => h).below fun g hg hf => by have := (HX.out.lt g hf).1; omega)))), h, F, H, _, pm, m, Hs, segs', hsed', _, _, ever, dims, HZ.out, ?_, ?_, ?_, ?_⟩
    · omega
    · omega
    · omega
    · have := List.length_eraseIdx_le used k; omega
end Go.Proofs.YtgcckfaljfkkhaaDoor.Hot
