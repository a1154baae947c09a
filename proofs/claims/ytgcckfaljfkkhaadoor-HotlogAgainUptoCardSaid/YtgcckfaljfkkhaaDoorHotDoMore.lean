/- The stand's 'do', a case at a time. -/
import Derived.Test.YtgcckfaljfkkhaaDoorFold24
import Derived.Test.YtgcckfaljfkkhaaDoorHotAppend
namespace Go.Proofs.YtgcckfaljfkkhaaDoor.Hot
open Go Go.RowKit Mem Pl Disk Crc _root_.Go.Proofs.YtgcckfaljfkkhaaDoor.Frame
set_option maxRecDepth 100000 in
set_option maxHeartbeats 8000000 in
theorem sdo_fuse {B : Nat} {w : World} {s a h r : Nat} {F H G : Nat → Prop} {pm : PM} {m n : Nat} {Hs : List (List UInt8)} {segs : List Nat} {hsed used : List Pc} {bytes : List (List UInt8)} {ever dims : Nat} (x : StandB B w s a h r F H G pm m n Hs segs hsed used bytes ever dims) (_hul : used.length ≤ 90000000) (_hm : m ≤ 900000000) (_hev : ever ≤ 4000000000000000000) (_hdi : dims ≤ 4000000000000000000)
    (kind num : Int) (A : Option Addr) (L cap : Nat) (p : Plc) (KA : Option Addr) (kl kc : Nat) (hki : inI kind) (hni : inI num) (hw : whichM kind 10 = 7) :
    Calls Tryd.prog 18 #[.pointer (some ⟨s, 0, none⟩), opV kind num A L cap p KA kl kc] w fun e w' => e = .returned (.bool true) ∧ Below B w w' ∧ Stood B w' s a r n (m + 20) (ever + 9) (dims + 1) (used.length + 1) := by
  have HX := Lib.hid x
  have HKI := Lib.hid (fun W : World => which_any W kind 10 (by omega) (by omega) hki)
  rw [hw] at HKI
  clear x
  unfold opV
  go_enter Tryd.func18, Tryd.ntmps18
  have hb1 : Below w.heap.size w (w.alloc (.cells #[.int .i64 kind, .int .i64 num, .slice A L cap, .int .i64 p.dev, .int .i64 p.at_, .int .i64 p.len, .bool p.bad, .slice KA kl kc] 53)) := below_al' _
  have HB1 := Lib.hid hb1
  have HKB := Lib.hid (Blk.new w 53 #[.int .i64 kind, .int .i64 num, .slice A L cap, .int .i64 p.dev, .int .i64 p.at_, .int .i64 p.len, .bool p.bad, .slice KA kl kc])
  have HX1 := Lib.hid (HX.out.below hb1)
  have hbs : B ≤ w.heap.size := HX.out.hB
  have hss : s < w.heap.size := HX.out.blk.lt
  clear hb1
  go_upto_region 1 with fail
  generalize hwe : w.alloc (.cells #[.int .i64 kind, .int .i64 num, .slice A L cap, .int .i64 p.dev, .int .i64 p.at_, .int .i64 p.len, .bool p.bad, .slice KA kl kc] 53) = w1 at *
  have hlk := HKB.out.lt
  clear hwe
  obtain ⟨c0, c1, c2, c3, c4⟩ := HX1.out.c0
  have hls := HX1.out.blk.lt
  obtain ⟨U, V, vs, y⟩ := HX1.out.ref
  have HY := Lib.hid y
  have u2 := y.c2
  have u3 := y.c3
  have hlr := y.blk.lt
  obtain ⟨AU, cU, hUe⟩ := y.uv.shape
  rw [hUe] at u2
  have o0 := (HKB.out.cell 0).trans (show _ = some (.int .i64 kind) from rfl)
  have o1 := (HKB.out.cell 1).trans (show _ = some (.int .i64 num) from rfl)
  have HFU := Lib.hid (fun W (hb : Below w1.heap.size w1 W) => (HX1.out.below hb).hot.st.setFuse (HX1.out.below hb).hB num hni.2)
  clear y HY hUe
  go_upto_region 3 with
    (refine (HKI.out _).mono ?_
     rintro e _ ⟨rfl, rfl⟩)
  go_upto_region 26 with fail
  refine Ord.region_ord [] [0, 1, 2, 3, 4, 5, 6] (by kernel_rfl) (by kernel_rfl) (by kernel_rfl) (by kernel_rfl) (Ord.ord_all [_, _, _, _, _, _, _] rfl (by kernel_rfl) ?_)
  go_wp2_with fail
  refine (HFU.out _ (below_drewN (Below.refl _ _) 1)).mono ?_
  rintro e w3 ⟨rfl, hg⟩
  have HG3 := Lib.hid hg
  clear hg u2 u3 hlr o0 o1 hlk c0
  go_wp2_with fail
  refine Ord.nx_end ?_
  go_wp2_with fail
  go_ret
  have hz := (HX1.out.below (below_drewN (Below.refl w1.heap.size w1) 1)).fused HG3.out
  have HM3 := Lib.hid (show Mods w1.heap.size F w1 w3 from ((Mods.refl w1.heap.size F w1).drew).trans HG3.out.2)
  refine ⟨rfl, (HB1.out.mono hbs).trans ((HM3.out.mono (by have := HB1.out.size; omega) fun _ _ h => h).below fun g hg hf => by have := (HX.out.hot.st.lt g hf).1; omega), h, _, H, G, _, m + 1, Hs, segs, hsed, used, bytes, ever, dims, hz, ?_, ?_, ?_, ?_⟩ <;> omega
set_option maxRecDepth 100000 in
set_option maxHeartbeats 8000000 in
theorem sdo_opened {B : Nat} {w : World} {s a h r : Nat} {F H G : Nat → Prop} {pm : PM} {m n : Nat} {Hs : List (List UInt8)} {segs : List Nat} {hsed used : List Pc} {bytes : List (List UInt8)} {ever dims : Nat} (x : StandB B w s a h r F H G pm m n Hs segs hsed used bytes ever dims) (hul : used.length ≤ 90000000) (hm : m ≤ 900000000) (_hev : ever ≤ 4000000000000000000) (_hdi : dims ≤ 4000000000000000000)
    (kind num : Int) (A : Option Addr) (L cap : Nat) (p : Plc) (KA : Option Addr) (kl kc : Nat) (hki : inI kind) (hw : whichM kind 10 = 9) :
    Calls Tryd.prog 18 #[.pointer (some ⟨s, 0, none⟩), opV kind num A L cap p KA kl kc] w fun e w' => e = .returned (.bool true) ∧ Below B w w' ∧ Stood B w' s a r n (m + 20) (ever + 9) (dims + 1) (used.length + 1) := by
  have HX := Lib.hid x
  have HKI := Lib.hid (fun W : World => which_any W kind 10 (by omega) (by omega) hki)
  rw [hw] at HKI
  clear x
  unfold opV
  go_enter Tryd.func18, Tryd.ntmps18
  have hb1 : Below w.heap.size w (w.alloc (.cells #[.int .i64 kind, .int .i64 num, .slice A L cap, .int .i64 p.dev, .int .i64 p.at_, .int .i64 p.len, .bool p.bad, .slice KA kl kc] 53)) := below_al' _
  have HB1 := Lib.hid hb1
  have HKB := Lib.hid (Blk.new w 53 #[.int .i64 kind, .int .i64 num, .slice A L cap, .int .i64 p.dev, .int .i64 p.at_, .int .i64 p.len, .bool p.bad, .slice KA kl kc])
  have HX1 := Lib.hid (HX.out.below hb1)
  have hbs : B ≤ w.heap.size := HX.out.hB
  have hss : s < w.heap.size := HX.out.blk.lt
  clear hb1
  go_upto_region 1 with fail
  generalize hwe : w.alloc (.cells #[.int .i64 kind, .int .i64 num, .slice A L cap, .int .i64 p.dev, .int .i64 p.at_, .int .i64 p.len, .bool p.bad, .slice KA kl kc] 53) = w1 at *
  have hlk := HKB.out.lt
  clear hwe
  obtain ⟨c0, c1, c2, c3, c4⟩ := HX1.out.c0
  have hls := HX1.out.blk.lt
  obtain ⟨U, V, vs, y⟩ := HX1.out.ref
  have HY := Lib.hid y
  have u2 := y.c2
  have u3 := y.c3
  have hlr := y.blk.lt
  obtain ⟨AU, cU, hUe⟩ := y.uv.shape
  rw [hUe] at u2
  have o0 := (HKB.out.cell 0).trans (show _ = some (.int .i64 kind) from rfl)
  have HOP := Lib.hid (opened_any HX1.out (by omega) (by omega))
  clear y HY hUe
  go_upto_region 3 with
    (refine (HKI.out _).mono ?_
     rintro e _ ⟨rfl, rfl⟩)
  go_wp2_with fail
  refine HOP.out.mono ?_
  rintro e w10 ⟨rfl, h', H'', segs', hsed', hz, _, _, hm10⟩
  go_wp2_with fail
  go_ret
  have hsB := HX.out.sB
  refine ⟨rfl, (HB1.out.mono hbs).trans ((hm10.mono (by have := HB1.out.size; omega) fun _ _ h => h).below fun g hg e => by omega), h', _, H'', G, pm, m, _, segs', hsed', used, bytes, ever, dims, hz, ?_, ?_, ?_, ?_⟩ <;> omega
set_option maxRecDepth 100000 in
set_option maxHeartbeats 8000000 in
theorem sdo_boot {B : Nat} {w : World} {s a h r : Nat} {F H G : Nat → Prop} {pm : PM} {m n : Nat} {Hs : List (List UInt8)} {segs : List Nat} {hsed used : List Pc} {bytes : List (List UInt8)} {ever dims : Nat} (x : StandB B w s a h r F H G pm m n Hs segs hsed used bytes ever dims) (hul : used.length ≤ 90000000) (hm : m ≤ 900000000) (_hev : ever ≤ 4000000000000000000) (_hdi : dims ≤ 4000000000000000000)
    (kind num : Int) (A : Option Addr) (L cap : Nat) (p : Plc) (KA : Option Addr) (kl kc : Nat) (hki : inI kind) (keep : List Int) (hk : IAt w KA keep) (hkl : keep.length = kl) (hka : keep ≠ [] → Aside w s F H G KA) (hkm : kl ≤ 9223372036854775807) (hw : whichM kind 10 = 8) :
    Calls Tryd.prog 18 #[.pointer (some ⟨s, 0, none⟩), opV kind num A L cap p KA kl kc] w fun e w' => e = .returned (.bool true) ∧ Below B w w' ∧ Stood B w' s a r n (m + 20) (ever + 9) (dims + 1) (used.length + 1) := by
  have HX := Lib.hid x
  have HKP := Lib.hid hk
  have HKL := Lib.hid hkl
  have HKA := Lib.hid hka
  clear hk hkl hka
  have HKI := Lib.hid (fun W : World => which_any W kind 10 (by omega) (by omega) hki)
  rw [hw] at HKI
  clear x
  unfold opV
  go_enter Tryd.func18, Tryd.ntmps18
  have hb1 : Below w.heap.size w (w.alloc (.cells #[.int .i64 kind, .int .i64 num, .slice A L cap, .int .i64 p.dev, .int .i64 p.at_, .int .i64 p.len, .bool p.bad, .slice KA kl kc] 53)) := below_al' _
  have HB1 := Lib.hid hb1
  have HKB := Lib.hid (Blk.new w 53 #[.int .i64 kind, .int .i64 num, .slice A L cap, .int .i64 p.dev, .int .i64 p.at_, .int .i64 p.len, .bool p.bad, .slice KA kl kc])
  have HX1 := Lib.hid (HX.out.below hb1)
  have hbs : B ≤ w.heap.size := HX.out.hB
  have hss : s < w.heap.size := HX.out.blk.lt
  clear hb1
  go_upto_region 1 with fail
  generalize hwe : w.alloc (.cells #[.int .i64 kind, .int .i64 num, .slice A L cap, .int .i64 p.dev, .int .i64 p.at_, .int .i64 p.len, .bool p.bad, .slice KA kl kc] 53) = w1 at *
  have hlk := HKB.out.lt
  clear hwe
  obtain ⟨c0, c1, c2, c3, c4⟩ := HX1.out.c0
  have hls := HX1.out.blk.lt
  obtain ⟨U, V, vs, y⟩ := HX1.out.ref
  have HY := Lib.hid y
  have u2 := y.c2
  have u3 := y.c3
  have hlr := y.blk.lt
  obtain ⟨AU, cU, hUe⟩ := y.uv.shape
  rw [hUe] at u2
  have o0 := (HKB.out.cell 0).trans (show _ = some (.int .i64 kind) from rfl)
  have o7 := (HKB.out.cell 7).trans (show _ = some (.slice KA kl kc) from rfl)
  have HBT := Lib.hid (fun W (hb : Below w1.heap.size w1 W) => (HX1.out.below hb).hot.st.boot (HX1.out.below hb).hB (by omega) KA kl kc keep (HKP.out.below (HB1.out.trans (hb.mono HB1.out.size))) HKL.out (fun hne ad hA => (HKA.out hne ad hA).2.1) hkm)
  clear y HY hUe
  go_upto_region 3 with
    (refine (HKI.out _).mono ?_
     rintro e _ ⟨rfl, rfl⟩)
  go_upto_region 29 with fail
  refine Ord.region_ord [] [0, 1, 2, 3, 4, 5, 6] (by kernel_rfl) (by kernel_rfl) (by kernel_rfl) (by kernel_rfl) (Ord.ord_all [_, _, _, _, _, _, _] rfl (by kernel_rfl) ?_)
  go_wp2_with fail
  refine (HBT.out _ (below_drewN (Below.refl _ _) 1)).mono ?_
  rintro e w3 ⟨rfl, hg⟩
  have HG3 := Lib.hid hg
  have HM3 := Lib.hid (show Mods w1.heap.size F w1 w3 from ((Mods.refl w1.heap.size F w1).drew).trans hg.2)
  have HZ := Lib.hid ((HX1.out.below (below_drewN (Below.refl w1.heap.size w1) 1)).rebooted hg)
  have HOP := Lib.hid (opened_any HZ.out (by omega) (by omega))
  clear hg u2 u3 hlr o0 o7 hlk c0
  go_wp2_with fail
  refine Ord.nx_end ?_
  go_wp2_with fail
  refine HOP.out.mono ?_
  rintro e w10 ⟨rfl, h', H'', segs', hsed', hz, _, _, hm10⟩
  go_wp2_with fail
  go_ret
  have hsB := HX.out.sB
  have hs1 := HB1.out.size
  have hs3 := HM3.out.size
  refine ⟨rfl, (HB1.out.mono hbs).trans (((HM3.out.mono (by omega) fun _ _ h => h).below fun g hg hf => by have := (HX.out.hot.st.lt g hf).1; omega).trans ((hm10.mono (by omega) fun _ _ h => h).below fun g hg e => by omega)), h', _, H'', G, _, m + 1, _, segs', hsed', used, bytes, ever, dims, hz, ?_, ?_, ?_, ?_⟩ <;> omega
set_option maxRecDepth 100000 in
set_option maxHeartbeats 8000000 in
theorem sdo_append {B : Nat} {w : World} {s a h r : Nat} {F H G : Nat → Prop} {pm : PM} {m n : Nat} {Hs : List (List UInt8)} {segs : List Nat} {hsed used : List Pc} {bytes : List (List UInt8)} {ever dims : Nat} (x : StandB B w s a h r F H G pm m n Hs segs hsed used bytes ever dims) (hul : used.length ≤ 90000000) (hm : m ≤ 900000000) (hev : ever ≤ 4000000000000000000) (hdi : dims ≤ 4000000000000000000)
    (kind num : Int) (A : Option Addr) (L cap : Nat) (p : Plc) (KA : Option Addr) (kl kc : Nat) (hki : inI kind) (bs : List UInt8) (hb : BAt w A bs) (hl : bs.length = L) (hLm : L ≤ 140737488355327) (ha : bs ≠ [] → Aside w s F H G A) (keep : List Int) (hk : IAt w KA keep) (hkl : keep.length = kl) (hka : keep ≠ [] → Aside w s F H G KA) (hkm : kl ≤ 9223372036854775807) (hw : whichM kind 10 < 4) :
    Calls Tryd.prog 18 #[.pointer (some ⟨s, 0, none⟩), opV kind num A L cap p KA kl kc] w fun e w' => e = .returned (.bool true) ∧ Below B w w' ∧ Stood B w' s a r n (m + 20) (ever + 9) (dims + 1) (used.length + 1) := by
  have HX := Lib.hid x
  have HKP := Lib.hid hk
  have HKL := Lib.hid hkl
  have HKA := Lib.hid hka
  have HBA := Lib.hid hb
  have HBL := Lib.hid hl
  have HAA := Lib.hid ha
  clear hk hkl hka hb hl ha
  have HKI := Lib.hid (fun W : World => which_any W kind 10 (by omega) (by omega) hki)
  obtain ⟨kw, hkw⟩ : ∃ kw, whichM kind 10 = kw := ⟨_, rfl⟩
  rw [hkw] at HKI hw
  clear hkw
  clear x
  unfold opV
  go_enter Tryd.func18, Tryd.ntmps18
  have hb1 : Below w.heap.size w (w.alloc (.cells #[.int .i64 kind, .int .i64 num, .slice A L cap, .int .i64 p.dev, .int .i64 p.at_, .int .i64 p.len, .bool p.bad, .slice KA kl kc] 53)) := below_al' _
  have HB1 := Lib.hid hb1
  have HKB := Lib.hid (Blk.new w 53 #[.int .i64 kind, .int .i64 num, .slice A L cap, .int .i64 p.dev, .int .i64 p.at_, .int .i64 p.len, .bool p.bad, .slice KA kl kc])
  have HX1 := Lib.hid (HX.out.below hb1)
  have hbs : B ≤ w.heap.size := HX.out.hB
  have hss : s < w.heap.size := HX.out.blk.lt
  clear hb1
  go_upto_region 1 with fail
  generalize hwe : w.alloc (.cells #[.int .i64 kind, .int .i64 num, .slice A L cap, .int .i64 p.dev, .int .i64 p.at_, .int .i64 p.len, .bool p.bad, .slice KA kl kc] 53) = w1 at *
  have hlk := HKB.out.lt
  clear hwe
  obtain ⟨c0, c1, c2, c3, c4⟩ := HX1.out.c0
  have hls := HX1.out.blk.lt
  obtain ⟨U, V, vs, y⟩ := HX1.out.ref
  have HY := Lib.hid y
  have u2 := y.c2
  have u3 := y.c3
  have hlr := y.blk.lt
  obtain ⟨AU, cU, hUe⟩ := y.uv.shape
  rw [hUe] at u2
  have o0 := (HKB.out.cell 0).trans (show _ = some (.int .i64 kind) from rfl)
  have o1 := (HKB.out.cell 1).trans (show _ = some (.int .i64 num) from rfl)
  have o2 := (HKB.out.cell 2).trans (show _ = some (.slice A L cap) from rfl)
  have o3 := (HKB.out.cell 3).trans (show _ = some (.int .i64 p.dev) from rfl)
  have o4 := (HKB.out.cell 4).trans (show _ = some (.int .i64 p.at_) from rfl)
  have o5 := (HKB.out.cell 5).trans (show _ = some (.int .i64 p.len) from rfl)
  have o6 := (HKB.out.cell 6).trans (show _ = some (.bool p.bad) from rfl)
  have o7 := (HKB.out.cell 7).trans (show _ = some (.slice KA kl kc) from rfl)
  have hs1 := HB1.out.size
  have HAP := Lib.hid (sappend_any HX1.out hul hm hev hdi kind num A L cap bs p KA kl kc keep (HBA.out.below HB1.out) HBL.out hLm (fun hne ad hA => by
    obtain ⟨h0, h1⟩ := HAA.out hne ad hA
    exact ⟨by omega, h1⟩) (HKP.out.below HB1.out) HKL.out (fun hne ad hA => by
    obtain ⟨h0, h1⟩ := HKA.out hne ad hA
    exact ⟨by omega, h1⟩) hkm)
  have n4 : ¬ ((kw : Nat) : Int) = 4 := by omega
  have n5 : ¬ ((kw : Nat) : Int) = 5 := by omega
  have n6 : ¬ ((kw : Nat) : Int) = 6 := by omega
  have n7 : ¬ ((kw : Nat) : Int) = 7 := by omega
  have n8 : ¬ ((kw : Nat) : Int) = 8 := by omega
  have n9 : ¬ ((kw : Nat) : Int) = 9 := by omega
  clear y HY hUe
  go_upto_region 3 with
    (refine (HKI.out _).mono ?_
     rintro e _ ⟨rfl, rfl⟩)
  go_wp2_with fail
  refine HAP.out.mono ?_
  rintro e w10 ⟨rfl, hb10, hz⟩
  go_wp2_with fail
  go_ret
  exact ⟨rfl, (HB1.out.mono hbs).trans hb10, hz⟩
end Go.Proofs.YtgcckfaljfkkhaaDoor.Hot
