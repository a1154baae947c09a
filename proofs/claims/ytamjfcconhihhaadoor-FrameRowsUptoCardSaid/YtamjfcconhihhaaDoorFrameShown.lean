/- 'munimentlaw04.shown' holds: the document's examples of frame. -/
import Derived.Test.YtamjfcconhihhaaDoorFrameRef
namespace Go.Proofs.YtamjfcconhihhaaDoor.Frame
open Go.RowKit Mem Crc
theorem ex_pack : unpackM (pack 7 [97, 98] ++ [99]) = some (7, [97, 98], [99]) := by decide +kernel
theorem ex_none : unpackM [255, 255, 255, 255, 0, 1, 2, 3, 4, 5] = none := by decide +kernel
theorem ex_take : takeM [1, 2, 3] 2 = (258, [3], 0) := by decide +kernel
theorem ex_take1 : takeM [1] 2 = (0, [], 40) := by decide +kernel
theorem ex_take0 : takeM [1] 0 = (0, [], 1) := by decide +kernel
theorem ex_num : number [97] 258 2 = [97, 1, 2] := by decide +kernel
theorem ex_num9 : number [97] 258 9 = [97] := by decide +kernel
theorem num2 (A : Option Addr) (w : World) (hb : BAt w A [97]) : Calls Tryd.prog 28 #[.slice A 1 1, .int .u64 258, .int .i64 2] w (RetB w [97, 1, 2]) := by
  have h := number_any A [97] 1 1 258 2 w rfl (by omega) hb (by omega)
  rwa [ex_num] at h
theorem num9 (A : Option Addr) (w : World) (hb : BAt w A [97]) : Calls Tryd.prog 28 #[.slice A 1 1, .int .u64 258, .int .i64 9] w (RetB w [97]) := by
  have h := number_any A [97] 1 1 258 9 w rfl (by omega) hb (by omega)
  rwa [ex_num9] at h
set_option maxRecDepth 100000 in
set_option maxHeartbeats 2000000 in
theorem shown_any (w : World) (ht : Tab w) (hg : 0 < w.heap.size) :
    Calls Tryd.prog 21 #[] w fun e w' => e = .returned (.bool true) ∧ Below w.heap.size w w' := by
  have HT := Lib.hid ht
  clear ht
  go_enter Tryd.func21, Tryd.ntmps21
  go_wp2_with fail
  refine (pack_any 7 _ [97, 98] 2 2 _ rfl (by omega) (BAt.new_at _ _ _ _ _ rfl (by rfl)) (HT.out.below (below_al' _) hg) (by simp)).mono ?_
  rintro e w1 ⟨A1, N1, c1, rfl, ho, hbw⟩
  obtain rfl : N1 = 11 := by rw [← ho.len]; rfl
  have HO1 := Lib.hid ho
  have HW1 := Lib.hid (below_al hbw)
  clear ho hbw
  have hz1 := HW1.out.size
  go_wp2_with (first
    | (at_builtin
       refine wpList_append_bytes rfl (.tmp 22) (.tmp 23) _ rfl w.heap.size _ byteTy _ 0 0 [] rfl (Own.new w1 _ _ rfl hz1 (by rfl) rfl (by decide)) A1 11 c1 _ rfl
         (HO1.out.bat.below (below_al' _)) HO1.out.len 11 rfl (by omega) (by simp; omega) ?_
       intro A2 c2 w2 ho2 hg2 hb2 hA2
       have HO2 := Lib.hid ho2
       have HW2 := Lib.hid ((HW1.out.alloc hz1 _).trans hb2)
       clear ho2 hg2 hb2 hA2)
    | (at_builtin
       refine wpList_append_bytes rfl (.tmp 24) (.tmp 25) _ rfl w.heap.size _ byteTy A2 11 c2 _ rfl (HO2.out.alloc _) _ 1 1 [99] rfl
         (BAt.new _ _ _ _ (by rfl)) rfl 12 rfl (by omega) (by have := HW2.out.size; simp; omega) ?_
       intro A3 c3 w3 ho3 hg3 hb3 hA3
       have HO3 := Lib.hid ho3
       have HW3 := Lib.hid ((HW2.out.alloc HW2.out.size _).trans hb3)
       clear ho3 hg3 hb3 hA3))
  have hu := unpack_any A3 _ 12 c3 w3 HO3.out.len HO3.out.cap_le.1 (by omega) HO3.out.bat (HT.out.below HW3.out hg)
  rw [List.nil_append, ex_pack] at hu
  refine hu.mono ?_
  clear hu
  intro e w4 hr
  obtain ⟨Ap, Np, cp, Aq, Nq, cq, rfl, hp, hq, hbw, _⟩ := hr.some_
  clear hr
  obtain rfl : Np = 2 := by rw [← hp.len]; rfl
  obtain rfl : Nq = 1 := by rw [← hq.len]; rfl
  have HP4 := Lib.hid hp
  have HQ4 := Lib.hid hq
  have HW4 := Lib.hid (below_tr HW3.out hbw)
  clear hp hq hbw HO1 HW1 hz1 HO2 HW2 HO3 HW3
  go_wp2_with fail
  have hu := unpack_any _ [255, 255, 255, 255, 0, 1, 2, 3, 4, 5] 10 10 _ rfl (by omega) (by omega) (BAt.new w4 _ 5 (0, 0) (by rfl)) (HT.out.below (below_tr HW4.out (below_al' _)) hg)
  rw [ex_none] at hu
  refine hu.mono ?_
  clear hu
  intro e w5 hr
  obtain ⟨rfl, hbw⟩ := hr.none_
  have hbw' := below_al hbw
  have HP5 := Lib.hid (HP4.out.below hbw')
  have HQ5 := Lib.hid (HQ4.out.below hbw')
  have HW5 := Lib.hid (below_tr HW4.out hbw')
  clear hr hbw hbw' HP4 HQ4 HW4
  go_wp2_with fail
  have hu := take_any _ [1, 2, 3] 3 3 2 _ rfl (by omega) (by omega) (BAt.new w5 _ 5 (0, 0) (by rfl))
  rw [ex_take] at hu
  refine hu.mono ?_
  clear hu
  rintro e w6 ⟨Ar, Nr, cr, rfl, ho, hbw⟩
  obtain rfl : Nr = 1 := by rw [← ho.len]; rfl
  have hbw' := below_al hbw
  have HR6 := Lib.hid ho
  have HP6 := Lib.hid (HP5.out.below hbw')
  have HQ6 := Lib.hid (HQ5.out.below hbw')
  have HW6 := Lib.hid (below_tr HW5.out hbw')
  clear ho hbw hbw' HP5 HQ5 HW5
  go_wp2_with fail
  have hu := take_any _ [1] 1 1 2 _ rfl (by omega) (by omega) (BAt.new w6 _ 5 (0, 0) (by rfl))
  rw [ex_take1] at hu
  refine hu.mono ?_
  clear hu
  rintro e w7 ⟨Ax, Nx, cx, rfl, ho, hbw⟩
  have hbw' := below_al hbw
  have HR7 := Lib.hid (HR6.out.below hbw')
  have HP7 := Lib.hid (HP6.out.below hbw')
  have HQ7 := Lib.hid (HQ6.out.below hbw')
  have HW7 := Lib.hid (below_tr HW6.out hbw')
  clear ho hbw hbw' HP6 HQ6 HW6 HR6
  go_wp2_with fail
  have hu := take_any _ [1] 1 1 0 _ rfl (by omega) (by omega) (BAt.new w7 _ 5 (0, 0) (by rfl))
  rw [ex_take0] at hu
  refine hu.mono ?_
  clear hu
  rintro e w8 ⟨Ay, Ny, cy, rfl, ho, hbw⟩
  have hbw' := below_al hbw
  have HR8 := Lib.hid (HR7.out.below hbw')
  have HP8 := Lib.hid (HP7.out.below hbw')
  have HQ8 := Lib.hid (HQ7.out.below hbw')
  have HW8 := Lib.hid (below_tr HW7.out hbw')
  clear ho hbw hbw' HP7 HQ7 HW7 HR7
  have hv7 : V8 7 = 7 := rfl
  go_wp2_with fail
  refine (same_any Ap _ [97, 98] [97, 98] 2 2 _ _ _ rfl rfl (HP8.out.bat.below (below_al' _)) (BAt.new w8 _ 5 (0, 0) (by rfl))).mono ?_
  rintro e w9 ⟨rfl, rfl⟩
  go_wp2_with fail
  refine (same_any Aq _ [99] [99] 1 1 _ _ _ rfl rfl (HQ8.out.bat.below (below_tr (below_al' _) (below_al' _))) (BAt.new_at _ _ _ 5 (0, 0) (by simp) (by rfl))).mono ?_
  rintro e w9 ⟨rfl, rfl⟩
  go_wp2_with fail
  refine (same_any Ar _ [3] [3] 1 1 _ _ _ rfl rfl (HR8.out.bat.below (below_tr (below_tr (below_al' _) (below_al' _)) (below_al' _))) (BAt.new_at _ _ _ 5 (0, 0) (by simp) (by rfl))).mono ?_
  rintro e w9 ⟨rfl, rfl⟩
  go_wp2_with fail
  refine (num2 _ _ (BAt.new_at _ _ _ 5 (0, 0) (by simp) (by rfl))).mono ?_
  rintro e w9 ⟨An, Nn, cn, rfl, ho, hbw⟩
  obtain rfl : Nn = 3 := by rw [← ho.len]; rfl
  have HN := Lib.hid ho
  have HW9 := Lib.hid (below_tr HW8.out (below_al (below_al (below_al (below_al hbw)))))
  clear ho hbw HR8 HP8 HQ8 HW8
  go_wp2_with fail
  refine (same_any An _ [97, 1, 2] [97, 1, 2] 3 3 _ _ _ rfl rfl (HN.out.bat.below (below_al' _)) (BAt.new w9 _ 5 (0, 0) (by rfl))).mono ?_
  rintro e w10 ⟨rfl, rfl⟩
  go_wp2_with fail
  refine (num9 _ _ (BAt.new_at _ _ _ 5 (0, 0) (by simp) (by rfl))).mono ?_
  rintro e w10 ⟨Am, Nm, cm, rfl, ho, hbw⟩
  obtain rfl : Nm = 1 := by rw [← ho.len]; rfl
  have HM := Lib.hid ho
  have HW10 := Lib.hid (below_tr HW9.out (below_al (below_al hbw)))
  clear ho hbw HN HW9
  go_wp2_with fail
  refine (same_any Am _ [97] [97] 1 1 _ _ _ rfl rfl (HM.out.bat.below (below_al' _)) (BAt.new w10 _ 5 (0, 0) (by rfl))).mono ?_
  rintro e w11 ⟨rfl, rfl⟩
  go_wp2_with fail
  go_ret
  exact ⟨rfl, below_tr HW10.out (below_al' _)⟩
end Go.Proofs.YtamjfcconhihhaaDoor.Frame
