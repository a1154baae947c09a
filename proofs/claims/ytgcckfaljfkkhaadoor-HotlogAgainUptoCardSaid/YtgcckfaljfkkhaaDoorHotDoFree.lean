/- The stand's 'do', a case at a time. -/
import Derived.Test.YtgcckfaljfkkhaaDoorFold24
import Derived.Test.YtgcckfaljfkkhaaDoorHotAppend
namespace Go.Proofs.YtgcckfaljfkkhaaDoor.Hot
open Go Go.RowKit Mem Pl Disk Crc _root_.Go.Proofs.YtgcckfaljfkkhaaDoor.Frame
set_option maxRecDepth 100000 in
set_option maxHeartbeats 8000000 in
theorem sdo_free {B : Nat} {w : World} {s a h r : Nat} {F H G : Nat → Prop} {pm : PM} {m n : Nat} {Hs : List (List UInt8)} {segs : List Nat} {hsed used : List Pc} {bytes : List (List UInt8)} {ever dims : Nat} (x : StandB B w s a h r F H G pm m n Hs segs hsed used bytes ever dims) (hul : used.length ≤ 90000000) (_hm : m ≤ 900000000) (_hev : ever ≤ 4000000000000000000) (_hdi : dims ≤ 4000000000000000000)
    (kind num : Int) (A : Option Addr) (L cap : Nat) (p : Plc) (KA : Option Addr) (kl kc : Nat) (hki : inI kind) (hni : inI num) (hw : whichM kind 10 = 4) :
    Calls Tryd.prog 18 #[.pointer (some ⟨s, 0, none⟩), opV kind num A L cap p KA kl kc] w fun e w' => e = .returned (.bool true) ∧ Below B w w' ∧ Stood B w' s a r n (m + 20) (ever + 9) (dims + 1) (used.length + 1) := by
  have HX := Lib.hid x
  have HKI := Lib.hid (fun W : World => which_any W kind 10 (by omega) (by omega) hki)
  rw [hw] at HKI
  clear x
  unfold opV
  go_enter Tryd.func18, Tryd.ntmps18
  have hb1 : Below w.heap.size w (w.alloc (.cells #[.int .i64 kind, .int .i64 num, .slice A L cap, .int .i64 p.dev, .int .i64 p.at_, .int .i64 p.len, .bool p.bad, .slice KA kl kc] 53)) := below_al' _
  have HB1 := Lib.hid hb1
  have HKB := Lib.hid (Blk.new w 53 #[.int .i64 kind, .int .i64 num, .slice A L cap, .int .i64 p.dev, .int .i64 p.at_, .int .i64 p.len, .bool p.bad, .slice KA kl kc])
  have HX1 := Lib.hid (HX.out.below hb1)
  have hbs : B ≤ w.heap.size := HX.out.hB
  have hss : s < w.heap.size := HX.out.blk.lt
  clear hb1
  go_upto_region 1 with fail
  generalize hwe : w.alloc (.cells #[.int .i64 kind, .int .i64 num, .slice A L cap, .int .i64 p.dev, .int .i64 p.at_, .int .i64 p.len, .bool p.bad, .slice KA kl kc] 53) = w1 at *
  have hlk := HKB.out.lt
  clear hwe
  obtain ⟨c0, c1, c2, c3, c4⟩ := HX1.out.c0
  have hls := HX1.out.blk.lt
  obtain ⟨U, V, vs, y⟩ := HX1.out.ref
  have HY := Lib.hid y
  have u2 := y.c2
  have u3 := y.c3
  have hlr := y.blk.lt
  obtain ⟨AU, cU, hUe⟩ := y.uv.shape
  rw [hUe] at u2
  have o0 := (HKB.out.cell 0).trans (show _ = some (.int .i64 kind) from rfl)
  have o1 := (HKB.out.cell 1).trans (show _ = some (.int .i64 num) from rfl)
  by_cases hn0 : used.length = 0
  · have hnI : ((used.length : Nat) : Int) = 0 := by omega
    clear y HY hUe
    go_wp2_with
      (refine (HKI.out _).mono ?_
       rintro e _ ⟨rfl, rfl⟩)
    go_ret
    refine ⟨rfl, HB1.out.mono hbs, h, F, H, G, pm, m, Hs, segs, hsed, used, bytes, ever, dims, HX1.out, ?_, ?_, ?_, ?_⟩ <;> omega
  · have hnI : ¬ ((used.length : Nat) : Int) = 0 := by omega
    have hk := whichM_lt num (show 0 < used.length by omega)
    have HKN := Lib.hid (fun W : World => which_any W num used.length (by omega) (by omega) hni)
    obtain ⟨k, hke⟩ : ∃ k, whichM num used.length = k := ⟨_, rfl⟩
    rw [hke] at HKN hk
    obtain ⟨u, hu⟩ : ∃ u, used[k]? = some u := ⟨_, List.getElem?_eq_getElem hk⟩
    obtain ⟨g, c, hU, e0, e1, e2, e3⟩ := used_cells HY.out.uv hu
    have e0 : w1.cell? ⟨g, k * 4, none⟩ = some (.int .i64 1) := e0
    rw [hUe] at hU
    injection hU with hU1 _ hU2
    subst hU1 hU2
    have hkI : (k : Int) < (used.length : Int) := by omega
    have HU := Lib.hid hu
    have HFR := Lib.hid (fun W (hb : Below w1.heap.size w1 W) => (HX1.out.below hb).freeAt (by omega) hu 1 (u.1 : Int) (u.2 : Int) false (isP_its u))
    clear y hu hke hUe
    go_upto_region 3 with
      (refine (HKI.out _).mono ?_
       rintro e _ ⟨rfl, rfl⟩)
    go_upto_region 7 with
      (refine (HKN.out _).mono ?_
       rintro e _ ⟨rfl, rfl⟩)
    refine Ord.region_ord [] [0, 1, 2, 3, 4, 5, 6, 7, 8, 9, 10, 11, 12, 13, 14, 15] (by kernel_rfl) (by kernel_rfl) (by kernel_rfl) (by kernel_rfl) (Ord.ord_all [_, _, _, _, _, _, _, _, _, _, _, _, _, _, _, _] rfl (by kernel_rfl) ?_)
    go_wp2_with fail
    refine (HFR.out _ (below_drewN (Below.refl _ _) 1)).mono ?_
    rintro e w3 ⟨rfl, segs', hsed', hp, hsl, hsm, hm3⟩
    have HP := Lib.hid hp
    have HSM := Lib.hid hsm
    have HM3 := Lib.hid (show Mods w1.heap.size H w1 w3 from ((Mods.refl w1.heap.size H w1).drew).trans hm3)
    have c2 := (hsm.blk.cell 2).trans (show _ = some (.pointer (some ⟨r, 0, none⟩)) from rfl)
    have hls3 := hsm.blk.lt
    have HDR := Lib.hid (hsm.drop (by omega) hk hp HX.out.on HX.out.held (by rw [hsl]; exact HX.out.room) HX.out.n1 HX.out.n4)
    clear hp hsm hm3 e0 e1 e2 e3 u2 u3 hlr o0 o1 hlk
    go_wp2_with fail
    refine Ord.nx_end ?_
    go_wp2_with
      (refine HDR.out.mono ?_
       rintro e w4 ⟨rfl, hz, hm4⟩
       have HZ := Lib.hid hz
       have HM4 := Lib.hid hm4
       clear hz hm4)
    go_ret
    have hs1 := HB1.out.size
    have hs3 := HM3.out.size
    refine ⟨rfl, (HB1.out.mono hbs).trans (((HM3.out.mono (by omega) fun _ _ h => h).below fun g hg hf => by have := (HX.out.hot.lt g hf).1; omega).trans ((HM4.out.mono (by omega) fun _ _ h => h).below fun g hg hf => by have := (HX.out.lt g hf).1; omega)), h, F, H, _, pm, m, Hs, segs', hsed', _, _, ever, dims, HZ.out, ?_, ?_, ?_, ?_⟩
    · omega
    · omega
    · omega
    · have := List.length_eraseIdx_le used k; omega
end Go.Proofs.YtgcckfaljfkkhaaDoor.Hot
