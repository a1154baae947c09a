/- The law's 'shown': the document's examples. -/
import Derived.Test.YtgcckfaljfkkhaaDoorFold30
namespace Go.Proofs.YtgcckfaljfkkhaaDoor.Hot
open Go Go.RowKit Mem Pl Disk Crc _root_.Go.Proofs.YtgcckfaljfkkhaaDoor.Frame
def Zs (n : Nat) : List UInt8 := List.replicate n 0
theorem Zs_len (n : Nat) : (Zs n).length = n := by simp [Zs]
theorem One.start {B : Nat} {w w1 w2 : World} {a h n : Nat} {segs : List Nat} (h1 : 1 ≤ n) (h4 : n ≤ 4096) (ht : Tabs B w) (hB : B ≤ w.heap.size) (hp : PlantAt w1 (New w w1) a (hotPM n)) (hb1 : Below w.heap.size w w1) (hb2 : Below w1.heap.size w1 w2) (hh : HotAt w2 (New w1 w2) h a 1 segs []) (hok : HotOk segs []) (hsl : segs.length = n / 16) : One B w2 a h 0 n [] [] [] := by
  have hs1 := hb1.size
  have hs2 := hb2.size
  refine ⟨New w w1, New w1 w2, hotPM n, _, segs, ⟨⟨begun_st h1 h4 hp hb2 hB, hotPM_disk n, hh, hok, hsl.symm, fun g hg => ⟨by have := hg.1; omega, hg.2⟩, fun g hf hg => by have := hf.2; have := hg.1; omega⟩, fun k u b hu => by simp at hu, rfl, rfl, rfl, by omega, ht.below (hb1.trans (hb2.mono hs1)) hB⟩, fun q hq => by simp at hq⟩
/-- A place that can not be is refused. -/
theorem One.openBad {B : Nat} {w : World} {a h m n : Nat} {used : List Pc} {bytes : List (List UInt8)} {K : List (Nat × Int × Int × Int)} (x : One B w a h m n used bytes K) (A : Option Addr) (cap : Nat) (p : Plc) (hps : PlsAt w A [p]) (hbad : ¬ placeM 1 (n / 16) p.dev p.at_ p.len = true) :
    Calls Tryd.prog 12 #[.pointer (some ⟨a, 0, none⟩), .int .i64 1, .slice A 1 cap] w fun e w' => e = .returned (.tuple #[.pointer none, .int .i64 31]) ∧ Below w.heap.size w w' := by
  obtain ⟨F, H, pm, Hs, segs, y, hk⟩ := x
  have hd := y.hot.disk.dev
  have hok := y.hot.st.ok
  have h1 := hok.tape 1 _ hd
  have h2 : 1 < pm.disks.length := by
    have : ¬ pm.disks.length ≤ 1 := fun h => by rw [decide_eq_true h] at h1; cases h1
    omega
  have h3 := (hok.most 1 _ hd).1
  rw [List.getElem?_append_left h2] at h3
  refine (hopen_any y.hot.st.at_ hok 1 A 1 cap [p] hps rfl (by omega)).mono ?_
  rintro e w' ⟨hb, ⟨hno, _⟩ | ⟨d, n', hd', hn', hr⟩⟩
  · exact absurd ⟨by omega, by omega⟩ hno
  obtain rfl : d = 1 := by omega
  rw [h3] at hn'
  injection hn' with hn'
  subst hn'
  rcases hr with ⟨_, rfl⟩ | ⟨used, h', segs', hu, _⟩
  · exact ⟨rfl, hb⟩
  · have e : openM 1 (n / 16) [p] = none := by
      unfold openM
      simp only [List.foldl_cons, List.foldl_nil]
      unfold openStep
      simp only
      rw [if_neg fun h => hbad h.1]
    rw [show (⟨false, n, Hs⟩ : Dev).most = n from rfl] at hu
    rw [e] at hu
    cases hu
set_option maxRecDepth 100000 in
set_option maxHeartbeats 16000000 in
theorem shown_any (w : World) (ht : Tabs w.heap.size w) :
    Calls Tryd.prog 9 #[] w fun e w' => e = .returned (.bool true) ∧ Below w.heap.size w w' := by
  have HT := Lib.hid ht
  clear ht
  have hM := made_any w 40 (by omega) (by omega)
  have hd2 : (hotPM 40).disks = [1, 40] := rfl
  go_enter Tryd.func9, Tryd.ntmps9
  go_wp2_with fail
  refine hM.mono ?_
  clear hM
  rintro e v1 ⟨a, rfl, hp, hb1⟩
  have HP := Lib.hid hp
  have HB1 := Lib.hid hb1
  have HO := Lib.hid (hopen_any hp (hotPM_ok (n := 40) (by omega) (by omega)).1 1 none 0 0 [] (fun k p h => by simp at h) rfl (by omega))
  clear hp hb1
  go_wp2_with fail
  refine HO.out.mono ?_
  rintro e v2 ⟨hb2, ⟨hno, _⟩ | ⟨d, n', hd, hn', hr⟩⟩
  · exact absurd ⟨by omega, by rw [hd2]; simp⟩ hno
  obtain rfl : d = 1 := by omega
  rw [hd2] at hn'
  obtain rfl : 40 = n' := by simpa using hn'
  rcases hr with ⟨h, _⟩ | ⟨used, h, segs, hu, rfl, hh, hok, hsl⟩
  · cases h
  have hu' : used = [] := by injection hu with hu; exact hu.symm
  subst hu'
  have HO0 : Hid (One w.heap.size v2 a h 0 40 [] [] []) := Lib.hid (One.start (by omega) (by omega) HT.out (Nat.le_refl _) HP.out HB1.out hb2 hh hok hsl)
  have HW0 := Lib.hid (HB1.out.trans (hb2.mono HB1.out.size))
  clear hh hok hsl hb2 hu hn' hd HO hd2 HB1 HP HT
  have HA1 := Lib.hid (HO0.out.append (by omega) (by simp) none 0 0 [] (BAt.nil_ _ _) rfl (by omega) (k := 0) (by kernel_rfl))
  have HE1 := Lib.hid (Below.refl v2.heap.size v2)
  go_wp2_with fail
  refine HA1.out.mono ?_
  rintro e w1a ⟨rfl, hz, hb⟩
  have HZ1 : Hid (One w.heap.size w1a a h 17 40 [(0, 1)] [[]] []) := Lib.hid hz
  have HW1a := Lib.hid (HW0.out.trans ((HE1.out.mono HW0.out.size).trans hb))
  clear hz
  have HN1 := Lib.hid (Blk.new w1a 36 #[.int .i64 0, .int .i64 0, .int .i64 0, .bool false])
  clear hb HA1 HE1 HO0 HW0
  go_upto_region 8 with
    (refine wpList_store_all rfl 36 (.tmp 4) (.tmp 42) rfl w1a.heap.size 36 [.int .i64 0, .int .i64 0, .int .i64 0, .bool false] (pcs 1 0 1) rfl rfl (HN1.out) rfl (by kernel_rfl) (pcs_one _ _ _) ?_
     intro w2 hb6 hg6 hz6
     have HK1 := Lib.hid hb6
     have HG1 := Lib.hid hg6
     clear hb6 hg6 hz6)
  have hbq : Below w1a.heap.size w1a w2 := fit_row (below_al' (w := w1a) _) HG1.out (Nat.le_refl _) (by simp)
  have HO1 := Lib.hid (HZ1.out.keep hbq (Nat.le_refl _) HK1.out)
  have HW1 := Lib.hid (HW1a.out.trans (hbq.mono HW1a.out.size))
  clear hbq HK1 HG1 HN1 HZ1 HW1a
  go_wp2_with
    (refine wpList_make_bytes rfl _ _ _ _ rfl Frame.byteTy .i64 .i64 512 rfl rfl (by omega) ?_
     intro wm hb2 hw2 hz2
     have HA2 := Lib.hid ((HO1.out.below hw2).append (by omega) (by simp) (some ⟨w2.heap.size, 0, none⟩) 512 512 (Zs 512) (Blk.bat hb2) (Zs_len _) (by omega) (k := 1) (by kernel_rfl))
     have HE2 := Lib.hid hw2
     clear hb2 hw2 hz2)
  refine HA2.out.mono ?_
  rintro e w2a ⟨rfl, hz, hb⟩
  have HZ2 : Hid (One w.heap.size w2a a h 34 40 [(0, 1), (1, 9)] [[], Zs 512] [(w1a.heap.size, 1, 0, 1)]) := Lib.hid hz
  have HW2a := Lib.hid (HW1.out.trans ((HE2.out.mono HW1.out.size).trans hb))
  clear hz
  have HN2 := Lib.hid (Blk.new w2a 36 #[.int .i64 0, .int .i64 0, .int .i64 0, .bool false])
  clear hb HA2 HE2 HO1 HW1
  go_upto_region 9 with
    (refine wpList_store_all rfl 36 (.tmp 6) (.tmp 48) rfl w2a.heap.size 36 [.int .i64 0, .int .i64 0, .int .i64 0, .bool false] (pcs 1 1 9) rfl rfl (HN2.out) rfl (by kernel_rfl) (pcs_one _ _ _) ?_
     intro w4 hb6 hg6 hz6
     have HK2 := Lib.hid hb6
     have HG2 := Lib.hid hg6
     clear hb6 hg6 hz6)
  have hbq : Below w2a.heap.size w2a w4 := fit_row (below_al' (w := w2a) _) HG2.out (Nat.le_refl _) (by simp)
  have HO2 := Lib.hid (HZ2.out.keep hbq (Nat.le_refl _) HK2.out)
  have HW2 := Lib.hid (HW2a.out.trans (hbq.mono HW2a.out.size))
  clear hbq HK2 HG2 HN2 HZ2 HW2a
  go_wp2_with
    (refine wpList_make_bytes rfl _ _ _ _ rfl Frame.byteTy .i64 .i64 320 rfl rfl (by omega) ?_
     intro wm hb2 hw2 hz2
     have HA3 := Lib.hid ((HO2.out.below hw2).append (by omega) (by simp) (some ⟨w4.heap.size, 0, none⟩) 320 320 (Zs 320) (Blk.bat hb2) (Zs_len _) (by omega) (k := 10) (by kernel_rfl))
     have HE3 := Lib.hid hw2
     clear hb2 hw2 hz2)
  refine HA3.out.mono ?_
  rintro e w3a ⟨rfl, hz, hb⟩
  have HZ3 : Hid (One w.heap.size w3a a h 51 40 [(0, 1), (1, 9), (10, 6)] [[], Zs 512, Zs 320] [(w2a.heap.size, 1, 1, 9), (w1a.heap.size, 1, 0, 1)]) := Lib.hid hz
  have HW3a := Lib.hid (HW2.out.trans ((HE3.out.mono HW2.out.size).trans hb))
  clear hz
  have HN3 := Lib.hid (Blk.new w3a 36 #[.int .i64 0, .int .i64 0, .int .i64 0, .bool false])
  clear hb HA3 HE3 HO2 HW2
  go_upto_region 10 with
    (refine wpList_store_all rfl 36 (.tmp 8) (.tmp 54) rfl w3a.heap.size 36 [.int .i64 0, .int .i64 0, .int .i64 0, .bool false] (pcs 1 10 6) rfl rfl (HN3.out) rfl (by kernel_rfl) (pcs_one _ _ _) ?_
     intro w6 hb6 hg6 hz6
     have HK3 := Lib.hid hb6
     have HG3 := Lib.hid hg6
     clear hb6 hg6 hz6)
  have hbq : Below w3a.heap.size w3a w6 := fit_row (below_al' (w := w3a) _) HG3.out (Nat.le_refl _) (by simp)
  have HO3 := Lib.hid (HZ3.out.keep hbq (Nat.le_refl _) HK3.out)
  have HW3 := Lib.hid (HW3a.out.trans (hbq.mono HW3a.out.size))
  clear hbq HK3 HG3 HN3 HZ3 HW3a
  have HA4 := Lib.hid (HO3.out.append (by omega) (by simp) none 0 0 [] (BAt.nil_ _ _) rfl (by omega) (k := 16) (by kernel_rfl))
  have HE4 := Lib.hid (Below.refl w6.heap.size w6)
  go_wp2_with fail
  refine HA4.out.mono ?_
  rintro e w4a ⟨rfl, hz, hb⟩
  have HZ4 : Hid (One w.heap.size w4a a h 68 40 [(0, 1), (1, 9), (10, 6), (16, 1)] [[], Zs 512, Zs 320, []] [(w3a.heap.size, 1, 10, 6), (w2a.heap.size, 1, 1, 9), (w1a.heap.size, 1, 0, 1)]) := Lib.hid hz
  have HW4a := Lib.hid (HW3.out.trans ((HE4.out.mono HW3.out.size).trans hb))
  clear hz
  have HN4 := Lib.hid (Blk.new w4a 36 #[.int .i64 0, .int .i64 0, .int .i64 0, .bool false])
  clear hb HA4 HE4 HO3 HW3
  go_upto_region 11 with
    (refine wpList_store_all rfl 36 (.tmp 10) (.tmp 59) rfl w4a.heap.size 36 [.int .i64 0, .int .i64 0, .int .i64 0, .bool false] (pcs 1 16 1) rfl rfl (HN4.out) rfl (by kernel_rfl) (pcs_one _ _ _) ?_
     intro w8 hb6 hg6 hz6
     have HK4 := Lib.hid hb6
     have HG4 := Lib.hid hg6
     clear hb6 hg6 hz6)
  have hbq : Below w4a.heap.size w4a w8 := fit_row (below_al' (w := w4a) _) HG4.out (Nat.le_refl _) (by simp)
  have HO4 := Lib.hid (HZ4.out.keep hbq (Nat.le_refl _) HK4.out)
  have HW4 := Lib.hid (HW4a.out.trans (hbq.mono HW4a.out.size))
  clear hbq HK4 HG4 HN4 HZ4 HW4a
  have hkt : Blk w8 w2a.heap.size 36 (pcs 1 1 9).toArray := HO4.out.blk (q := (w2a.heap.size, 1, 1, 9)) (by simp)
  have t0 := (hkt.cell 0).trans (show _ = some (.int .i64 1) from rfl)
  have t1 := (hkt.cell 1).trans (show _ = some (.int .i64 1) from rfl)
  have t2 := (hkt.cell 2).trans (show _ = some (.int .i64 9) from rfl)
  have t3 := (hkt.cell 3).trans (show _ = some (.bool false) from rfl)
  have tl := hkt.lt
  clear hkt
  have HA5 := Lib.hid (HO4.out.free (by simp) (k := 1) (u := (1, 9)) rfl false)
  go_wp2_with fail
  refine HA5.out.mono ?_
  rintro e w10 ⟨rfl, hz, hb⟩
  have e1 : ([(0, 1), (1, 9), (10, 6), (16, 1)] : List Pc).eraseIdx 1 = [(0, 1), (10, 6), (16, 1)] := rfl
  have e2 : ([[], Zs 512, Zs 320, []] : List (List UInt8)).eraseIdx 1 = [[], Zs 320, []] := rfl
  rw [e1, e2] at hz
  have HO5 := Lib.hid hz
  have HW5 := Lib.hid (HW4.out.trans hb)
  clear hz hb e1 e2
  go_upto_region 12 with fail
  clear HA5 HO4 HW4 t0 t1 t2 t3 tl
  go_wp2_with
    (refine wpList_make_bytes rfl _ _ _ _ rfl Frame.byteTy .i64 .i64 64 rfl rfl (by omega) ?_
     intro wm hb2 hw2 hz2
     have HA6 := Lib.hid ((HO5.out.below hw2).append (by omega) (by simp) (some ⟨w10.heap.size, 0, none⟩) 64 64 (Zs 64) (Blk.bat hb2) (Zs_len _) (by omega) (k := 1) (by kernel_rfl))
     have HE6 := Lib.hid hw2
     clear hb2 hw2 hz2)
  refine HA6.out.mono ?_
  rintro e w6a ⟨rfl, hz, hb⟩
  have HZ6 : Hid (One w.heap.size w6a a h 85 40 [(0, 1), (10, 6), (16, 1), (1, 2)] [[], Zs 320, [], Zs 64] [(w4a.heap.size, 1, 16, 1), (w3a.heap.size, 1, 10, 6), (w2a.heap.size, 1, 1, 9), (w1a.heap.size, 1, 0, 1)]) := Lib.hid hz
  have HW6a := Lib.hid (HW5.out.trans ((HE6.out.mono HW5.out.size).trans hb))
  clear hz
  have HN6 := Lib.hid (Blk.new w6a 36 #[.int .i64 0, .int .i64 0, .int .i64 0, .bool false])
  clear hb HA6 HE6 HO5 HW5
  go_upto_region 13 with
    (refine wpList_store_all rfl 36 (.tmp 13) (.tmp 68) rfl w6a.heap.size 36 [.int .i64 0, .int .i64 0, .int .i64 0, .bool false] (pcs 1 1 2) rfl rfl (HN6.out) rfl (by kernel_rfl) (pcs_one _ _ _) ?_
     intro w12 hb6 hg6 hz6
     have HK6 := Lib.hid hb6
     have HG6 := Lib.hid hg6
     clear hb6 hg6 hz6)
  have hbq : Below w6a.heap.size w6a w12 := fit_row (below_al' (w := w6a) _) HG6.out (Nat.le_refl _) (by simp)
  have HO6 := Lib.hid (HZ6.out.keep hbq (Nat.le_refl _) HK6.out)
  have HW6 := Lib.hid (HW6a.out.trans (hbq.mono HW6a.out.size))
  clear hbq HK6 HG6 HN6 HZ6 HW6a
  go_wp2_with
    (refine wpList_make_bytes rfl _ _ _ _ rfl Frame.byteTy .i64 .i64 512 rfl rfl (by omega) ?_
     intro wm hb2 hw2 hz2
     have HA7 := Lib.hid ((HO6.out.below hw2).append (by omega) (by simp) (some ⟨w12.heap.size, 0, none⟩) 512 512 (Zs 512) (Blk.bat hb2) (Zs_len _) (by omega) (k := 17) (by kernel_rfl))
     have HE7 := Lib.hid hw2
     clear hb2 hw2 hz2)
  refine HA7.out.mono ?_
  rintro e w7a ⟨rfl, hz, hb⟩
  have HZ7 : Hid (One w.heap.size w7a a h 102 40 [(0, 1), (10, 6), (16, 1), (1, 2), (17, 9)] [[], Zs 320, [], Zs 64, Zs 512] [(w6a.heap.size, 1, 1, 2), (w4a.heap.size, 1, 16, 1), (w3a.heap.size, 1, 10, 6), (w2a.heap.size, 1, 1, 9), (w1a.heap.size, 1, 0, 1)]) := Lib.hid hz
  have HW7a := Lib.hid (HW6.out.trans ((HE7.out.mono HW6.out.size).trans hb))
  clear hz
  have HN7 := Lib.hid (Blk.new w7a 36 #[.int .i64 0, .int .i64 0, .int .i64 0, .bool false])
  clear hb HA7 HE7 HO6 HW6
  go_upto_region 14 with
    (refine wpList_store_all rfl 36 (.tmp 15) (.tmp 74) rfl w7a.heap.size 36 [.int .i64 0, .int .i64 0, .int .i64 0, .bool false] (pcs 1 17 9) rfl rfl (HN7.out) rfl (by kernel_rfl) (pcs_one _ _ _) ?_
     intro w14 hb6 hg6 hz6
     have HK7 := Lib.hid hb6
     have HG7 := Lib.hid hg6
     clear hb6 hg6 hz6)
  have hbq : Below w7a.heap.size w7a w14 := fit_row (below_al' (w := w7a) _) HG7.out (Nat.le_refl _) (by simp)
  have HO7 := Lib.hid (HZ7.out.keep hbq (Nat.le_refl _) HK7.out)
  have HW7 := Lib.hid (HW7a.out.trans (hbq.mono HW7a.out.size))
  clear hbq HK7 HG7 HN7 HZ7 HW7a
  go_wp2_with
    (refine wpList_make_bytes rfl _ _ _ _ rfl Frame.byteTy .i64 .i64 512 rfl rfl (by omega) ?_
     intro wm hb2 hw2 hz2
     have HA8 := Lib.hid ((HO7.out.below hw2).full (by omega) (by simp) (some ⟨w14.heap.size, 0, none⟩) 512 512 (Zs 512) (Blk.bat hb2) (Zs_len _) (by omega) (by kernel_rfl))
     have HE8 := Lib.hid hw2
     clear hb2 hw2 hz2)
  refine HA8.out.mono ?_
  rintro e w8a ⟨rfl, hb⟩
  have HZ8 := Lib.hid ((HO7.out.below HE8.out).below hb)
  have HW8a := Lib.hid (HW7.out.trans ((HE8.out.trans (hb.mono HE8.out.size)).mono HW7.out.size))
  have HN8 := Lib.hid (Blk.new w8a 36 #[.int .i64 0, .int .i64 0, .int .i64 0, .bool false])
  clear hb HA8 HE8 HO7 HW7
  go_upto_region 15 with
    (refine wpList_store_all rfl 36 (.tmp 17) (.tmp 80) rfl w8a.heap.size 36 [.int .i64 0, .int .i64 0, .int .i64 0, .bool false] (pcs 0 0 0) rfl rfl (HN8.out) rfl (by kernel_rfl) (pcs_one _ _ _) ?_
     intro w16 hb6 hg6 hz6
     have HK8 := Lib.hid hb6
     have HG8 := Lib.hid hg6
     clear hb6 hg6 hz6)
  have hbq : Below w8a.heap.size w8a w16 := fit_row (below_al' (w := w8a) _) HG8.out (Nat.le_refl _) (by simp)
  have HO8 := Lib.hid (HZ8.out.keep hbq (Nat.le_refl _) HK8.out)
  have HW8 := Lib.hid (HW8a.out.trans (hbq.mono HW8a.out.size))
  clear hbq HK8 HG8 HN8 HZ8 HW8a
  have hkt : Blk w16 w2a.heap.size 36 (pcs 1 1 9).toArray := HO8.out.blk (q := (w2a.heap.size, 1, 1, 9)) (by simp)
  have t0 := (hkt.cell 0).trans (show _ = some (.int .i64 1) from rfl)
  have t1 := (hkt.cell 1).trans (show _ = some (.int .i64 1) from rfl)
  have t2 := (hkt.cell 2).trans (show _ = some (.int .i64 9) from rfl)
  have t3 := (hkt.cell 3).trans (show _ = some (.bool false) from rfl)
  have tl := hkt.lt
  clear hkt
  have HA9 := Lib.hid (HO8.out.readNo (by simp) (by omega) 1 1 9 false (by
    intro u hu
    simp at hu
    rcases hu with rfl | rfl | rfl | rfl | rfl <;> rfl))
  go_wp2_with fail
  refine HA9.out.mono ?_
  rintro e w18 ⟨rfl, hb⟩
  have HO9 := Lib.hid (HO8.out.below hb)
  have HW9 := Lib.hid (HW8.out.trans (hb.mono HW8.out.size))
  clear hb
  go_upto_region 16 with fail
  clear HA9 HO8 HW8 t0 t1 t2 t3 tl
  have hkt : Blk w18 w6a.heap.size 36 (pcs 1 1 2).toArray := HO9.out.blk (q := (w6a.heap.size, 1, 1, 2)) (by simp)
  have t0 := (hkt.cell 0).trans (show _ = some (.int .i64 1) from rfl)
  have t1 := (hkt.cell 1).trans (show _ = some (.int .i64 1) from rfl)
  have t2 := (hkt.cell 2).trans (show _ = some (.int .i64 2) from rfl)
  have t3 := (hkt.cell 3).trans (show _ = some (.bool false) from rfl)
  have tl := hkt.lt
  clear hkt
  have HA10 := Lib.hid (HO9.out.read (by simp) (by omega) (k := 3) (u := (1, 2)) (b := Zs 64) rfl rfl false)
  go_wp2_with fail
  refine HA10.out.mono ?_
  rintro e w20 ⟨A', mm, cap', rfl, hmm, hb⟩
  have HO10 := Lib.hid (HO9.out.below hb)
  have HW10 := Lib.hid (HW9.out.trans (hb.mono HW9.out.size))
  have hm64 : (mm : Int) = 64 := by rw [hmm, Zs_len]; rfl
  clear hb hmm
  go_upto_region 19 with fail
  clear HA10 HO9 HW9 t0 t1 t2 t3 tl
  have hba : Below w20.heap.size w20 (w20.alloc (.cells #[.int .i64 1, .int .i64 15, .int .i64 2, .bool false] 36)) := below_al' _
  have HBA := Lib.hid hba
  have HA11 := Lib.hid ((HO10.out.below hba).openBad (some ⟨w20.heap.size, 0, none⟩) 1 ⟨1, 15, 2, false⟩ (by
    have hk := Blk.new w20 36 #[.int .i64 1, .int .i64 15, .int .i64 2, .bool false]
    intro k p hp
    cases k with
    | succ k => simp at hp
    | zero =>
      obtain rfl : (⟨1, 15, 2, false⟩ : Plc) = p := by simpa using hp
      exact ⟨_, rfl, by unfold inI; simp, (hk.cell 0).trans rfl, (hk.cell 1).trans rfl, (hk.cell 2).trans rfl, (hk.cell 3).trans rfl⟩) (by unfold placeM; simp))
  clear hba
  go_wp2_with fail
  refine HA11.out.mono ?_
  rintro e w22 ⟨rfl, hb⟩
  have HO11 := Lib.hid ((HO10.out.below HBA.out).below hb)
  have HW11 := Lib.hid (HW10.out.trans ((HBA.out.trans (hb.mono HBA.out.size)).mono HW10.out.size))
  clear hb
  go_upto_region 20 with fail
  clear HA11 HO10 HW10 HBA
  have hkta : Blk w22 w1a.heap.size 36 (pcs 1 0 1).toArray := HO11.out.blk (q := (w1a.heap.size, 1, 0, 1)) (by simp)
  have ta0 := (hkta.cell 0).trans (show _ = some (.int .i64 1) from rfl)
  have ta1 := (hkta.cell 1).trans (show _ = some (.int .i64 0) from rfl)
  have ta2 := (hkta.cell 2).trans (show _ = some (.int .i64 1) from rfl)
  have ta3 := (hkta.cell 3).trans (show _ = some (.bool false) from rfl)
  have tal := hkta.lt
  clear hkta
  have qta := fun W => (show _ = Result.ok (Value.bool true) W from eql_pc 1 0 1 false 1 0 1 false W)
  have hktb : Blk w22 w2a.heap.size 36 (pcs 1 1 9).toArray := HO11.out.blk (q := (w2a.heap.size, 1, 1, 9)) (by simp)
  have tb0 := (hktb.cell 0).trans (show _ = some (.int .i64 1) from rfl)
  have tb1 := (hktb.cell 1).trans (show _ = some (.int .i64 1) from rfl)
  have tb2 := (hktb.cell 2).trans (show _ = some (.int .i64 9) from rfl)
  have tb3 := (hktb.cell 3).trans (show _ = some (.bool false) from rfl)
  have tbl := hktb.lt
  clear hktb
  have qtb := fun W => (show _ = Result.ok (Value.bool true) W from eql_pc 1 1 9 false 1 1 9 false W)
  have hktc : Blk w22 w3a.heap.size 36 (pcs 1 10 6).toArray := HO11.out.blk (q := (w3a.heap.size, 1, 10, 6)) (by simp)
  have tc0 := (hktc.cell 0).trans (show _ = some (.int .i64 1) from rfl)
  have tc1 := (hktc.cell 1).trans (show _ = some (.int .i64 10) from rfl)
  have tc2 := (hktc.cell 2).trans (show _ = some (.int .i64 6) from rfl)
  have tc3 := (hktc.cell 3).trans (show _ = some (.bool false) from rfl)
  have tcl := hktc.lt
  clear hktc
  have qtc := fun W => (show _ = Result.ok (Value.bool true) W from eql_pc 1 10 6 false 1 10 6 false W)
  have hktd : Blk w22 w4a.heap.size 36 (pcs 1 16 1).toArray := HO11.out.blk (q := (w4a.heap.size, 1, 16, 1)) (by simp)
  have td0 := (hktd.cell 0).trans (show _ = some (.int .i64 1) from rfl)
  have td1 := (hktd.cell 1).trans (show _ = some (.int .i64 16) from rfl)
  have td2 := (hktd.cell 2).trans (show _ = some (.int .i64 1) from rfl)
  have td3 := (hktd.cell 3).trans (show _ = some (.bool false) from rfl)
  have tdl := hktd.lt
  clear hktd
  have qtd := fun W => (show _ = Result.ok (Value.bool true) W from eql_pc 1 16 1 false 1 16 1 false W)
  have hkte : Blk w22 w6a.heap.size 36 (pcs 1 1 2).toArray := HO11.out.blk (q := (w6a.heap.size, 1, 1, 2)) (by simp)
  have te0 := (hkte.cell 0).trans (show _ = some (.int .i64 1) from rfl)
  have te1 := (hkte.cell 1).trans (show _ = some (.int .i64 1) from rfl)
  have te2 := (hkte.cell 2).trans (show _ = some (.int .i64 2) from rfl)
  have te3 := (hkte.cell 3).trans (show _ = some (.bool false) from rfl)
  have tel := hkte.lt
  clear hkte
  have qte := fun W => (show _ = Result.ok (Value.bool true) W from eql_pc 1 1 2 false 1 1 2 false W)
  have hgd := fun W x y xs ys => guard_pc .eql x y xs ys W
  go_wp2_with fail
  go_ret
  exact ⟨rfl, HW11.out⟩
end Go.Proofs.YtgcckfaljfkkhaaDoor.Hot
